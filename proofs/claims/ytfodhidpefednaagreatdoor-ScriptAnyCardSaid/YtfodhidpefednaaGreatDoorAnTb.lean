import Derived.Test.YtfodhidpefednaaGreatDoorRt
namespace Go.Proofs.YtfodhidpefednaaGreatDoor.An
open Go Go.AM
def t1 : Tab := texts.map (fun s => (157,[str s],.tuple ⟨[str (fieldB s),.int .i64 0]⟩)) ++ clients.map (fun s => (77,[str s],.bool true)) ++ names.map (fun s => (78,[str s],.bool true)) ++ filters.map (fun s => (79,[str s],.bool true))
def t2 : Tab := (List.range 128).map fun n : Nat => (98,[.int .i64 (n : Int)],.tuple ⟨[str [UInt8.ofNat n],.int .i64 0]⟩)
def t3 : Tab := (List.range 128).map fun n : Nat => (126,[.int .i64 (n : Int)],.int .i64 1)
def t4 : Tab := (List.range 256).map fun c : Nat => (15,[.int .u8 (c : Int)],.bool (firstB c))
def t5 : Tab := (162,[str PM],.tuple ⟨[.agg ⟨asciiPM⟩,.bool true]⟩) :: (List.range 6).map fun c : Nat => (27,[.pointer none,.int .i64 (c : Int)],.pointer none)
def d8 (k c n a b d : Nat) (e : Int) : FuncId × List Value × Value := (8,[.pointer none,.agg ⟨(Ent.mk k c n a b d []).cells⟩],.agg ⟨told e⟩)
def t6 : Tab := [d8 1 0 0 0 0 0 8,d8 7 0 0 0 0 0 0] ++ (List.range 6).map (fun c => d8 3 c 0 0 0 0 8) ++ (List.range 4).map (fun n => d8 4 0 n 0 0 0 0) ++ (List.range 6).map (fun c => d8 5 c 0 0 0 0 0)
def t7 : Tab := ((List.range 5).map fun a => ((List.range 8).map fun b => (List.range 7).map fun c => d8 6 0 0 a b c 0).flatten).flatten
def tab : Tab := t7 ++ t6 ++ [(4,[],.bool true)] ++ t1 ++ t2 ++ t3 ++ t4 ++ t5
end Go.Proofs.YtfodhidpefednaaGreatDoor.An
