import Derived.Test.YtohapjojkjjflaaDoorRu
namespace Go.Proofs.YtohapjojkjjflaaDoor.Wc
open Go Go.AM
def t4 : Tab := (List.range 256).map fun c : Nat => (32,[.int .u8 (c : Int)],.bool (firstB c))
def t5 : Tab := [(68,[str PM],.tuple ⟨[.agg ⟨asciiPM⟩,.bool true]⟩)]
def tab : Tab := [(4,[],.bool true)] ++ t4 ++ t5
end Go.Proofs.YtohapjojkjjflaaDoor.Wc
