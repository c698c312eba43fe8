/- The law NumCuts of layer 3, as a walk. -/
import Derived.Test.YtfbchegfkilhpaaNumLaws
import Derived.Deep.QuietTactic
import Derived.BigQuiet
namespace Go.Proofs.Ytfbchegfkilhpaa.Num
open Go.RowKit Go.Proofs.Ytfbchegfkilhpaa.Shift Go.Proofs.Ytfbchegfkilhpaa.Mem

set_option maxHeartbeats 400000 in
theorem cuts_law (v cut : Nat) (w : World) (hv : v < 18446744073709551616) (hcut : cut < 256) :
    Calls Try.prog 11 #[.int .u64 v, .int .u8 cut] w fun e w' => e = .returned (.bool true) ∧ Below w.heap.size w w' := by
  obtain ⟨nb, hnb⟩ : ∃ nb, numB v = nb := ⟨_, rfl⟩
  have hk := lenB_le v
  have hnl : nb.length ≤ 9 := by rw [← hnb, numB_length]; omega
  have hn1 : 1 ≤ nb.length := by rw [← hnb, numB_length]; omega
  have hna : AllB nb := by rw [← hnb]; exact numB_all v
  have c1 := fun W => append_any none 0 0 [] v W rfl hv Rd.nil (by simp)
  have c2 := fun W => size_any v W hv
  have c4 := fun W (A : Option Addr) (c : Nat) (hr : Rd W W.heap.size A (BB [7])) => append_any A 1 c [7] v W rfl hv hr (by simp)
  rw [List.nil_append, hnb] at c1
  rw [hnb] at c2 c4
  obtain ⟨j, hj⟩ : ∃ j, cut % nb.length = j := ⟨_, rfl⟩
  have hjl : j < nb.length := by rw [← hj]; exact Nat.mod_lt _ (by omega)
  have hcutr := read_cut hv j (by rw [← numB_length, hnb]; exact hjl)
  rw [hnb] at hcutr
  have htl : (nb.take j).length = j := by rw [List.length_take]; omega
  have c3 := fun (W : World) (A : Option Addr) (c : Nat) (hc : j ≤ c) (hr : Rd W W.heap.size A (BB (nb.take j))) => read_any A j c (nb.take j) 0 W htl.symm (fun x hx => hna x (List.mem_of_mem_take hx)) (by rw [htl]; exact hc) (by rw [htl]; omega) hr
  have e0 : ∀ b : List Nat, readNum b 0 = readAt b 0 := fun b => readNum_nat b 0
  rw [e0] at c3
  obtain ⟨o, ho⟩ : ∃ o, readAt (nb.take j) 0 = o := ⟨_, rfl⟩
  rw [ho] at c3 hcutr
  have C1 := Lib.hid c1
  have C2 := Lib.hid c2
  have C3 := Lib.hid c3
  have C4 := Lib.hid c4
  have HO := Lib.hid hcutr
  have hmod : (cut : Int) % (nb.length : Int) = (j : Int) := by rw [← hj]; simp
  have hpos : 0 < nb.length := by omega
  clear c1 c2 c3 c4 hcutr htl e0 ho hnb hj hk
  go_enter Try.func11, Try.ntmps11
  go_wp2_with fail
  refine (C1.out _).mono ?_
  rintro e w1 ⟨A1, c1, rfl, hown1, hc1, hb1⟩
  have hjc : j ≤ c1 := by omega
  have hr1 := hown1.rd
  go_wp2_with fail
  have hrd2 : Rd (w1.alloc (.cells #[.int .u8 7, .int .u8 7] 5)) (w1.heap.size + 1) (some ⟨w1.heap.size, 0, none⟩) (BB [7, 7]) := Rd.new w1 [.int .u8 7, .int .u8 7] 5
  have hbw := below_new hb1 (.cells #[.int .u8 7, .int .u8 7] 5)
  have hr1w := hr1.alloc (Nat.le_refl _) (.cells #[.int .u8 7, .int .u8 7] 5)
  have hws : (w1.alloc (.cells #[.int .u8 7, .int .u8 7] 5)).heap.size = w1.heap.size + 1 := by simp
  have hcell : (w1.alloc (.cells #[.int .u8 7, .int .u8 7] 5)).cell? ⟨w1.heap.size, 1, none⟩ = some (.int .u8 7) := by
    rw [World.cell?_alloc_at _ _ _ _ rfl]; rfl
  have hrd1 : Rd (w1.alloc (.cells #[.int .u8 7, .int .u8 7] 5)) (w1.alloc (.cells #[.int .u8 7, .int .u8 7] 5)).heap.size (some ⟨w1.heap.size, 0, none⟩) (BB [7]) := by
    rw [hws]; exact hrd2.take 1
  rw [hmod]
  generalize hW : w1.alloc (.cells #[.int .u8 7, .int .u8 7] 5) = W at *
  have HWS := Lib.hid hws
  clear hW hrd2 hmod hws
  refine (C4.out _ _ _ hrd1).mono ?_
  rintro e w2 ⟨A2, c2, rfl, hown2, _, hb2⟩
  have hb12 := below_next hbw hb2
  have hcell2 : w2.cell? ⟨w1.heap.size, 1, none⟩ = some (.int .u8 7) := by rw [hb2.cell (p := ⟨w1.heap.size, 1, none⟩) (by rw [HWS.out]; simp)]; exact hcell
  have hr2 : Rd w2 w2.heap.size A1 (BB (nb.take j)) := by
    rw [← BB_take]
    exact ((hr1w.more (by rw [HWS.out]; omega)).below hb2 |>.more hb2.size).take j
  clear hcell hrd1 hr1w hr1 hown1 hown2 hbw hb1
  go_wp2_with fail
  refine (C3.out _ _ _ hjc hr2).mono ?_
  rintro e w3 ⟨rfl, hb3⟩
  unfold outV
  rw [HO.out]
  have hlt : w1.heap.size < w2.heap.size := by have := HWS.out; have := hb2.size; omega
  have hcell3 : w3.cell? ⟨w1.heap.size, 1, none⟩ = some (.int .u8 7) := by rw [hb3.cell (p := ⟨w1.heap.size, 1, none⟩) hlt]; exact hcell2
  have hb13 := below_next hb12 hb3
  clear hcell2 hr2 hb2 hb3 hb12
  go_wp2_with fail
  refine (C2.out _).mono ?_
  rintro e w' ⟨rfl, rfl⟩
  have heq : ((nb.length : Int) + 1 == 1 + (nb.length : Int)) = true := by simp; omega
  go_wp2_with fail
  refine (works_any _).mono ?_
  rintro e w6 ⟨rfl, hb6⟩
  go_wp2_with fail
  go_ret
  exact ⟨rfl, below_next hb13 hb6⟩
end Go.Proofs.Ytfbchegfkilhpaa.Num
