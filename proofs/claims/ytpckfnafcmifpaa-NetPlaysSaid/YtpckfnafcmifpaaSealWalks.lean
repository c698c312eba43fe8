/- The walks of layer 5: what each function of package seal, and of its reference, gives. -/
import Derived.Test.YtpckfnafcmifpaaCrcLaws
namespace Go.Proofs.Ytpckfnafcmifpaa.Seal
open Go.RowKit Go.Proofs.Ytpckfnafcmifpaa.Mem Go.Proofs.Ytpckfnafcmifpaa.Crc

/-- four bytes of a sum, the lowest first -/
def le4 (c : Nat) : List Nat := [c % 256, c / 256 % 256, c / 65536 % 256, c / 16777216 % 256]
def sealed (kind : Nat) (l : List Nat) : List Nat := (kind :: l) ++ le4 (more 0 (kind :: l))
theorem le4_all (c : Nat) : AllB (le4 c) := by
  intro x hx
  simp only [le4, List.mem_cons, List.not_mem_nil, or_false] at hx
  rcases hx with rfl | rfl | rfl | rfl <;> omega
theorem cons_all {k : Nat} {l : List Nat} (hk : k < 256) (hl : AllB l) : AllB (k :: l) := by
  intro x hx
  rcases List.mem_cons.1 hx with rfl | h
  · exact hk
  · exact hl x h
theorem sealed_all {k : Nat} {l : List Nat} (hk : k < 256) (hl : AllB l) : AllB (sealed k l) := by
  intro x hx
  rcases List.mem_append.1 hx with h | h
  · exact cons_all hk hl x h
  · exact le4_all _ x h
theorem sealed_length (k : Nat) (l : List Nat) : (sealed k l).length = l.length + 5 := by simp [sealed, le4]
def arr4 (c : Nat) : Value := .agg #[.int .u8 ((c : Int) % 256), .int .u8 ((c : Int) / 256 % 256), .int .u8 ((c : Int) / 65536 % 256), .int .u8 ((c : Int) / 16777216)]
theorem arr4_cells {s : Nat} (hs : s < 4294967296) : [Value.int .u8 ((s : Int) % 256), .int .u8 ((s : Int) / 256 % 256), .int .u8 ((s : Int) / 65536 % 256), .int .u8 ((s : Int) / 16777216)] = BB (le4 s) := by
  simp only [BB, le4, List.map_cons, List.map_nil]
  rw [show ((s % 256 : Nat) : Int) = (s : Int) % 256 from by omega, show ((s / 256 % 256 : Nat) : Int) = (s : Int) / 256 % 256 from by omega, show ((s / 65536 % 256 : Nat) : Int) = (s : Int) / 65536 % 256 from by omega, show ((s / 16777216 % 256 : Nat) : Int) = (s : Int) / 16777216 from by omega]
end Go.Proofs.Ytpckfnafcmifpaa.Seal
