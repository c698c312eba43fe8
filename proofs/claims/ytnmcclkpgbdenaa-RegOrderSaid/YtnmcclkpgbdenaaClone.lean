/- Texts and lines copied: the library's slices.Clone. -/
import Derived.Test.YtnmcclkpgbdenaaCardRef
import Derived.Test.YtnmcclkpgbdenaaMemK
namespace Go.Proofs.Ytnmcclkpgbdenaa.Card
open Go.RowKit Go.Proofs.Ytnmcclkpgbdenaa.Mem

theorem str_info : (Try.prog.info? 9).map (fun i => (i.zero, i.size, i.bytes)) = some (some (.string ByteArray.empty), 1, 16) := by kernel_rfl
theorem line_info : (Try.prog.info? 41).map (fun i => (i.zero, i.size, i.bytes)) = some (some (.agg #[.int .u8 0, .string ByteArray.empty, .slice none 0 0]), 3, 48) := by kernel_rfl
def strE : Elem ByteArray := ⟨fun s => [.string s], 1, by decide, fun _ => rfl, fun _ u hu => by rcases List.mem_singleton.1 hu with rfl; rfl⟩
def lineE : Elem LineM := ⟨LineM.cells, 3, by decide, fun _ => rfl, fun x u hu => by
  simp only [LineM.cells, List.mem_cons, List.not_mem_nil, or_false] at hu
  rcases hu with rfl | rfl | rfl <;> rfl⟩
def cardE : Elem CardM := ⟨CardM.cells, 2, by decide, fun _ => rfl, fun x u hu => by
  simp only [CardM.cells, List.mem_cons, List.not_mem_nil, or_false] at hu
  rcases hu with rfl | rfl <;> rfl⟩
theorem strE_cells (l : List ByteArray) : strE.cells l = SB l := by
  unfold Elem.cells SB
  induction l with
  | nil => rfl
  | cons x l ih => rw [List.flatMap_cons, ih]; rfl
theorem strE_rd {w : World} {B : Nat} {A : Option Addr} {l : List ByteArray} : strE.Rd w B A l ↔ Rd w B A (SB l) := by unfold Elem.Rd; rw [strE_cells]
theorem sclone_any (A : Option Addr) (n c : Nat) (l : List ByteArray) (w : World) (hn : n = l.length) (hr : strE.Rd w w.heap.size A l) (hsz : l.length * 16 ≤ 140737488355328) :
    Calls Try.prog 76 #[.slice A n c] w (strE.Gives 9 w l) := by
  subst hn
  have hnil := fun (W : World) (a : Option Addr) (m d : Nat) => Lib.run_eql_slice_nil (P := Try.prog) W 39 9 a m d 0 0 Try.underlying39
  rcases A with _ | ad
  · obtain rfl := hr.none
    go_enter Try.func76, Try.ntmps76
    go_wp2
    go_ret
    exact ⟨none, 0, rfl, Elem.Own.nilv _ _ _ _, Nat.le_refl _, Below.refl _ _⟩
  · have hown1 : strE.Own (w.alloc (.cells #[] 9)) w.heap.size 9 (.slice (some ⟨w.heap.size, 0, none⟩) 0 0) [] := Elem.Own.new strE w w.heap.size 9 [] (Nat.le_refl _) (by simp)
    have hr1 := hr.alloc (Nat.le_refl _) (.cells #[] 9)
    have hbs : (([] : List ByteArray).length + l.length) * 16 ≤ 140737488355328 := by simpa using hsz
    go_enter Try.func76, Try.ntmps76
    go_wp2_with (at_builtin; refine wpl_appE _ strE rfl (.tmp 5) (.tmp 6) 39 rfl w.heap.size 9 Try.underlying39 str_info rfl _ [] rfl hown1 w.heap.size (some ad) _ c l rfl rfl hr1 hbs (by decide) (by simp) ?_; intro A2 c2 w2 r2 hr2 hown2 hb2)
    go_ret
    exact Elem.gives (by rw [hr2.out]; rfl) hown2 (((Below.refl _ _).alloc (Nat.le_refl _) _).trans hb2)
theorem lclone_any (A : Option Addr) (n c : Nat) (l : List LineM) (w : World) (hn : n = l.length) (hr : lineE.Rd w w.heap.size A l) (hsz : l.length * 48 ≤ 140737488355328) :
    Calls Try.prog 75 #[.slice A n c] w (lineE.Gives 41 w l) := by
  subst hn
  have hnil := fun (W : World) (a : Option Addr) (m d : Nat) => Lib.run_eql_slice_nil (P := Try.prog) W 36 41 a m d 0 0 Try.underlying36
  rcases A with _ | ad
  · obtain rfl := hr.none
    go_enter Try.func75, Try.ntmps75
    go_wp2
    go_ret
    exact ⟨none, 0, rfl, Elem.Own.nilv _ _ _ _, Nat.le_refl _, Below.refl _ _⟩
  · have hown1 : lineE.Own (w.alloc (.cells #[] 41)) w.heap.size 41 (.slice (some ⟨w.heap.size, 0, none⟩) 0 0) [] := Elem.Own.new lineE w w.heap.size 41 [] (Nat.le_refl _) (by simp)
    have hr1 := hr.alloc (Nat.le_refl _) (.cells #[] 41)
    have hbs : (([] : List LineM).length + l.length) * 48 ≤ 140737488355328 := by simpa using hsz
    go_enter Try.func75, Try.ntmps75
    go_wp2_with (at_builtin; refine wpl_appE _ lineE rfl (.tmp 5) (.tmp 6) 36 rfl w.heap.size 41 Try.underlying36 line_info rfl _ [] rfl hown1 w.heap.size (some ad) _ c l rfl rfl hr1 hbs (by decide) (by simp) ?_; intro A2 c2 w2 r2 hr2 hown2 hb2)
    go_ret
    exact Elem.gives (by rw [hr2.out]; rfl) hown2 (((Below.refl _ _).alloc (Nat.le_refl _) _).trans hb2)
end Go.Proofs.Ytnmcclkpgbdenaa.Card
