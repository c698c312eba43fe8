/- The walks of layer 5: what each function of package seal, and of its reference, gives. -/
import Derived.Test.YtfbchegfkilhpaaDoorCrcLaws
namespace Go.Proofs.YtfbchegfkilhpaaDoor.Seal
open Go.RowKit Go.Proofs.YtfbchegfkilhpaaDoor.Mem Go.Proofs.YtfbchegfkilhpaaDoor.Crc

/-- four bytes of a sum, the lowest first -/
def le4 (c : Nat) : List Nat := [c % 256, c / 256 % 256, c / 65536 % 256, c / 16777216 % 256]
def sealed (kind : Nat) (l : List Nat) : List Nat := (kind :: l) ++ le4 (more 0 (kind :: l))
theorem le4_all (c : Nat) : AllB (le4 c) := by
  intro x hx
  simp only [le4, List.mem_cons, List.not_mem_nil, or_false] at hx
  rcases hx with rfl | rfl | rfl | rfl <;> omega
theorem cons_all {k : Nat} {l : List Nat} (hk : k < 256) (hl : AllB l) : AllB (k :: l) := by
  intro x hx
  rcases List.mem_cons.1 hx with rfl | h
  · exact hk
  · exact hl x h
theorem sealed_all {k : Nat} {l : List Nat} (hk : k < 256) (hl : AllB l) : AllB (sealed k l) := by
  intro x hx
  rcases List.mem_append.1 hx with h | h
  · exact cons_all hk hl x h
  · exact le4_all _ x h
theorem sealed_length (k : Nat) (l : List Nat) : (sealed k l).length = l.length + 5 := by simp [sealed, le4]
theorem equal_any (w : World) (B B' : Nat) (A A' : Option Addr) (n m c c' : Nat) (a b : List Nat) (hn : n = a.length) (hm : m = b.length) (ha : AllB a) (hb : AllB b) (h1 : Rd w B A (BB a)) (h2 : Rd w B' A' (BB b)) :
    Calls Tryd.prog 18 #[.slice A n c, .slice A' m c'] w fun e w' => e = .returned (.bool (decide (a = b))) ∧ w = w' := by
  subst hn hm
  have s1 := run_str w B A _ c a rfl h1
  have s2 := run_str w B' A' _ c' b rfl h2
  have s3 := str_eq ha hb
  go_enter Tryd.func18, Tryd.ntmps18
  go_wp2
  go_ret
  exact ⟨rfl, rfl⟩
def arr4 (c : Nat) : Value := .agg #[.int .u8 ((c : Int) % 256), .int .u8 ((c : Int) / 256 % 256), .int .u8 ((c : Int) / 65536 % 256), .int .u8 ((c : Int) / 16777216)]
theorem sum_any (X : Option Addr) (n cap : Nat) (ps : List Part) (w : World) (hn : n = ps.length) (hT : Tab w) (hr : RdParts w w.heap.size X ps) (hsz : ps.length ≤ 9223372036854775807) :
    Calls Tryd.prog 26 #[.slice X n cap] w fun e w' => e = .returned (arr4 (more 0 (cat ps))) ∧ Below w.heap.size w w' := by
  subst hn
  have hlt : more 0 (cat ps) < 4294967296 := more_lt (cat_all fun p hp => (hr.2 p hp).2.1) (by decide)
  have HO := Lib.hid (fun (o : Obj) => of_any X _ cap ps (w.alloc o) rfl (hT.alloc o) ((hr.below ((Below.refl _ _).alloc (Nat.le_refl _) o)).more (by simp)) hsz)
  generalize more 0 (cat ps) = s at *
  go_enter Tryd.func26, Tryd.ntmps26
  go_wp2_with fail
  refine (HO.out _).mono ?_
  rintro e w' ⟨rfl, rfl⟩
  go_wp2
  exact bodyPost_ret (v := arr4 s) (by simp [results, Tryd.results26, go_sem, arr4]) rfl ⟨rfl, (Below.refl _ _).alloc (Nat.le_refl _) _⟩
theorem arr4_cells {s : Nat} (hs : s < 4294967296) : [Value.int .u8 ((s : Int) % 256), .int .u8 ((s : Int) / 256 % 256), .int .u8 ((s : Int) / 65536 % 256), .int .u8 ((s : Int) / 16777216)] = BB (le4 s) := by
  simp only [BB, le4, List.map_cons, List.map_nil]
  rw [show ((s % 256 : Nat) : Int) = (s : Int) % 256 from by omega, show ((s / 256 % 256 : Nat) : Int) = (s : Int) / 256 % 256 from by omega, show ((s / 65536 % 256 : Nat) : Int) = (s : Int) / 65536 % 256 from by omega, show ((s / 16777216 % 256 : Nat) : Int) = (s : Int) / 16777216 from by omega]
end Go.Proofs.YtfbchegfkilhpaaDoor.Seal
