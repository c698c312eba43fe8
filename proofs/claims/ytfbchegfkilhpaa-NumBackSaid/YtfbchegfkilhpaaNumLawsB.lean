/- The laws of layer 3, continued. -/
import Derived.Test.YtfbchegfkilhpaaNumLaws
import Derived.Deep.QuietTactic
import Derived.BigQuiet
import Derived.StillTailTactics
import Derived.Deep.RegionHeld3
namespace Go.Proofs.Ytfbchegfkilhpaa.Num
open Go.RowKit Go.Proofs.Ytfbchegfkilhpaa.Shift Go.Proofs.Ytfbchegfkilhpaa.Mem

set_option maxHeartbeats 400000 in
theorem back_law (A : Option Addr) (c : Nat) (l : List Nat) (v : Nat) (w : World) (hv : v < 18446744073709551616) (hl : AllB l) (hr : Rd w w.heap.size A (BB l)) (hle : l.length ≤ c) (hc : c ≤ 140737488351232) :
    Calls Try.prog 10 #[.int .u64 v, .slice A l.length c] w fun e w' => e = .returned (.bool true) ∧ Below w.heap.size w w' := by
  obtain ⟨nb, hnb⟩ : ∃ nb, numB v = nb := ⟨_, rfl⟩
  have hk := lenB_le v
  have hnl : nb.length ≤ 9 := by rw [← hnb, numB_length]; omega
  have hna : AllB nb := by rw [← hnb]; exact numB_all v
  have c1 := fun W => append_any none 0 0 [] v W rfl hv Rd.nil (by simp)
  have c2 := fun W => size_any v W hv
  rw [List.nil_append, hnb] at c1
  rw [hnb] at c2
  have C1 := Lib.hid c1
  have C2 := Lib.hid c2
  have hrd := read_written hv l
  rw [hnb, ← numB_length, hnb] at hrd
  have HRD := Lib.hid hrd
  clear c1 c2 hrd
  go_enter Try.func10, Try.ntmps10
  go_wp2_with fail
  refine (C1.out _).mono ?_
  rintro e w1 ⟨A1, c1, rfl, hown1, hc1, hb1⟩
  have hr1 := hr.below hb1
  have hsz : nb.length + l.length ≤ 140737488355328 := by omega
  have hs1 := hb1.size
  go_wp2_with (at_builtin; refine wpl_app rfl (.tmp 13) (.tmp 14) rfl w.heap.size _ nb rfl hown1 w.heap.size A _ c l rfl rfl hr1 hsz hs1 ?_; intro A2 c2 w2 r2 hr2 hown2 hg2 hb2)
  have hb12 := hb1.trans hb2
  have hra : AllB r2 := by rw [hr2.out]; exact all_app hna hl
  have hrl : r2.length = nb.length + l.length := by rw [hr2.out, List.length_append]
  have hc2 : r2.length ≤ c2 := by
    obtain ⟨_, _, he, hle2, _, _⟩ := hown2.form
    rw [BB_length] at hle2
    injection he with _ _ h3
    omega
  have c3 := read_any A2 _ c2 r2 0 w2 rfl hra hc2 (by omega) hown2.rd
  have e0 : readNum r2 0 = ⟨v, nb.length, 0⟩ := by rw [show (0 : Int) = ((0 : Nat) : Int) from rfl, readNum_nat, hr2.out]; exact HRD.out
  rw [e0] at c3
  have C3 := Lib.hid c3
  have hrl2 : nb.length ≤ r2.length := by omega
  have hrl3 : r2.length ≤ 140737488351241 := by omega
  obtain ⟨o, ho⟩ : ∃ o, readNum l 0 = o := ⟨_, rfl⟩
  have c4 := fun (W : World) (hb : Below w.heap.size w W) => read_any A _ c l 0 W rfl hl hle (by omega) ((hr.below hb).more hb.size)
  rw [ho] at c4
  have C4 := Lib.hid c4
  have hback := @read_back l hl 0
  rw [← readNum_nat, show ((0 : Nat) : Int) = 0 from rfl, ho] at hback
  have HB := Lib.hid hback
  clear hg2 e0 c3 c4 hback ho hnb hrl hr1 hown1
  go_wp2_with fail
  refine C3.out.mono ?_
  rintro e w3 ⟨rfl, hb3⟩
  unfold outV
  have hb13 : Below w.heap.size w w3 := hb12.trans (hb3.mono hb12.size)
  go_wp2_with fail
  refine (C2.out _).mono ?_
  rintro e w' ⟨rfl, rfl⟩
  go_wp2_with fail
  refine (C4.out _ hb13).mono ?_
  rintro e w4 ⟨rfl, hb4⟩
  unfold outV
  have hb14 : Below w.heap.size w w4 := hb13.trans (hb4.mono hb13.size)
  by_cases hf : o.err = 0
  · obtain ⟨h1, h2, h3, h4⟩ := HB.out hf
    have hoe : ((o.err : Int) != 0) = false := by rw [hf]; rfl
    have c5 := fun W => append_any none 0 0 [] o.v W rfl h3 Rd.nil (by simp)
    rw [List.nil_append] at c5
    have C5 := Lib.hid c5
    have H4 := Lib.hid h4
    clear h4 c5 hf
    have hle3 : o.next ≤ c := by omega
    have hd1 : decide (o.next ≤ l.length) = true := by simpa using h1
    have hd2 : decide ((o.next : Int) ≤ (l.length : Int)) = true := by simp; omega
    clear C1 C2 C3 C4 HB HRD hown2 hb1 hb2 hb3 hb4 hb12 hb13 hr2 hra hna
    have W6 := Lib.hid (fun W => works_any W)
    have EQ := Lib.hid (fun (W : World) (B B' : Nat) (A5 : Option Addr) (c5 : Nat) (h1 : Rd W B A5 (BB (numB o.v))) (h2 : Rd W B' A (BB (l.take o.next))) =>
      equal_any W B B' A5 A (numB o.v).length o.next c5 c (numB o.v) (l.take o.next) rfl (by rw [List.length_take]; omega) (numB_all _) (fun x hx => hl x (List.mem_of_mem_take hx)) h1 h2)
    have hrt : ∀ W, Below w.heap.size w W → Rd W w.heap.size A (BB (l.take o.next)) := fun W hb => by rw [← BB_take]; exact (hr.below hb).take _
    have HRT := Lib.hid hrt
    have hdec : decide (numB o.v = l.take o.next) = true := by have := H4.out; simp only [List.drop_zero, Nat.sub_zero] at this; simpa using this
    have HDEC := Lib.hid hdec
    clear hrt hdec
    go_wp2_with fail
    go_region_held3 (fun _ => True) (trivial) (first
      | (go_at_call 26; refine (C5.out _).mono ?_; rintro e w5 ⟨A5, c5, rfl, hown5, _, hb5⟩)
      | (go_at_call 25; refine (EQ.out _ _ _ _ _ hown5.rd (HRT.out _ ((hb14.drew).trans (hb5.mono (by have := hb14.size; exact this))))).mono ?_; rintro e w' ⟨rfl, rfl⟩; rw [HDEC.out])
      | (go_at_call 29; refine (W6.out _).mono ?_; rintro e w6 ⟨rfl, hb6⟩))
    go_wp2
    go_ret
    exact ⟨rfl, below_next (below_next (hb14.drew) hb5) hb6⟩
  · have hoe : ((o.err : Int) != 0) = true := by simpa using hf
    have W6 := Lib.hid (fun W => works_any W)
    clear C1 C2 C3 C4 HB HRD
    go_wp2_with fail
    refine wp_region_any (by kernel_rfl) ?_
    change wpAny _ _ _ _ _ _ _ (World.drew _)
    refine wpAny_take (i := 0) (v := ?_) rfl (by kernel_rfl) (by kernel_rfl) (by kernel_rfl) (fun _ _ _ h => h) (Or.inl ⟨by rfl, ?_⟩) ?_
    case refine_2 => (intro w; go_simp; try with_reducible rfl)
    try simp only [Act.put, List.setIfInBounds_toArray, List.set_cons_zero, List.set_cons_succ, List.getElem_toArray, List.getElem_cons_zero]
    refine wpAny_take (i := 1) (v := ?_) rfl (by kernel_rfl) (by kernel_rfl) (by kernel_rfl) (fun _ _ _ h => h) (Or.inl ⟨by rfl, ?_⟩) ?_
    case refine_2 => (intro w; go_simp; try with_reducible rfl)
    try simp only [Act.put, List.setIfInBounds_toArray, List.set_cons_zero, List.set_cons_succ, List.getElem_toArray, List.getElem_cons_zero, List.getElem_cons_succ]
    refine wpAny_take (i := 2) (v := ?_) rfl (by kernel_rfl) (by kernel_rfl) (by kernel_rfl) (fun _ _ _ h => h) (Or.inl ⟨by rfl, ?_⟩) ?_
    case refine_2 => (intro w; go_simp; try with_reducible rfl)
    try simp only [Act.put, List.setIfInBounds_toArray, List.set_cons_zero, List.set_cons_succ, List.getElem_toArray, List.getElem_cons_zero, List.getElem_cons_succ]
    refine wpAny_take (i := 3) (v := undef) rfl (by kernel_rfl) (by kernel_rfl) (by kernel_rfl) (fun _ _ _ h => h) (Or.inr ⟨by rfl, rfl⟩) ?_
    try simp only [Act.put, List.setIfInBounds_toArray, List.set_cons_zero, List.set_cons_succ, List.getElem_toArray, List.getElem_cons_zero, List.getElem_cons_succ]
    refine wpAny_take (i := 4) (v := undef) rfl (by kernel_rfl) (by kernel_rfl) (by kernel_rfl) (fun _ _ _ h => h) (Or.inr ⟨by rfl, rfl⟩) ?_
    try simp only [Act.put, List.setIfInBounds_toArray, List.set_cons_zero, List.set_cons_succ, List.getElem_toArray, List.getElem_cons_zero, List.getElem_cons_succ]
    refine wpAny_take (i := 5) (v := undef) rfl (by kernel_rfl) (by kernel_rfl) (by kernel_rfl) (fun _ _ _ h => h) (Or.inr ⟨by rfl, rfl⟩) ?_
    try simp only [Act.put, List.setIfInBounds_toArray, List.set_cons_zero, List.set_cons_succ, List.getElem_toArray, List.getElem_cons_zero, List.getElem_cons_succ]
    refine wpAny_take (i := 6) (v := undef) rfl (by kernel_rfl) (by kernel_rfl) (by kernel_rfl) (fun _ _ _ h => h) (Or.inr ⟨by rfl, rfl⟩) ?_
    try simp only [Act.put, List.setIfInBounds_toArray, List.set_cons_zero, List.set_cons_succ, List.getElem_toArray, List.getElem_cons_zero, List.getElem_cons_succ]
    refine wpAny_take (i := 7) (v := undef) rfl (by kernel_rfl) (by kernel_rfl) (by kernel_rfl) (fun _ _ _ h => h) (Or.inr ⟨by rfl, rfl⟩) ?_
    try simp only [Act.put, List.setIfInBounds_toArray, List.set_cons_zero, List.set_cons_succ, List.getElem_toArray, List.getElem_cons_zero, List.getElem_cons_succ]
    refine wpAny_take (i := 8) (v := undef) rfl (by kernel_rfl) (by kernel_rfl) (by kernel_rfl) (fun _ _ _ h => h) (Or.inr ⟨by rfl, rfl⟩) ?_
    try simp only [Act.put, List.setIfInBounds_toArray, List.set_cons_zero, List.set_cons_succ, List.getElem_toArray, List.getElem_cons_zero, List.getElem_cons_succ]
    refine wpAny_take (i := 9) (v := undef) rfl (by kernel_rfl) (by kernel_rfl) (by kernel_rfl) (fun _ _ _ h => h) (Or.inr ⟨by rfl, rfl⟩) ?_
    try simp only [Act.put, List.setIfInBounds_toArray, List.set_cons_zero, List.set_cons_succ, List.getElem_toArray, List.getElem_cons_zero, List.getElem_cons_succ]
    refine wpAny_take (i := 10) (v := undef) rfl (by kernel_rfl) (by kernel_rfl) (by kernel_rfl) (fun _ _ _ h => h) (Or.inr ⟨by rfl, rfl⟩) ?_
    try simp only [Act.put, List.setIfInBounds_toArray, List.set_cons_zero, List.set_cons_succ, List.getElem_toArray, List.getElem_cons_zero, List.getElem_cons_succ]
    refine wpAny_take (i := 11) (v := undef) rfl (by kernel_rfl) (by kernel_rfl) (by kernel_rfl) (fun _ _ _ h => h) (Or.inr ⟨by rfl, rfl⟩) ?_
    try simp only [Act.put, List.setIfInBounds_toArray, List.set_cons_zero, List.set_cons_succ, List.getElem_toArray, List.getElem_cons_zero, List.getElem_cons_succ]
    refine wpAny_take (i := 12) (v := undef) rfl (by kernel_rfl) (by kernel_rfl) (by kernel_rfl) (fun _ _ _ h => h) (Or.inr ⟨by rfl, rfl⟩) ?_
    try simp only [Act.put, List.setIfInBounds_toArray, List.set_cons_zero, List.set_cons_succ, List.getElem_toArray, List.getElem_cons_zero, List.getElem_cons_succ]
    refine wpAny_take (i := 13) (v := undef) rfl (by kernel_rfl) (by kernel_rfl) (by kernel_rfl) (fun _ _ _ h => h) (Or.inr ⟨by rfl, rfl⟩) ?_
    try simp only [Act.put, List.setIfInBounds_toArray, List.set_cons_zero, List.set_cons_succ, List.getElem_toArray, List.getElem_cons_zero, List.getElem_cons_succ]
    refine wpAny_take (i := 14) (v := undef) rfl (by kernel_rfl) (by kernel_rfl) (by kernel_rfl) (fun _ _ _ h => h) (Or.inr ⟨by rfl, rfl⟩) ?_
    try simp only [Act.put, List.setIfInBounds_toArray, List.set_cons_zero, List.set_cons_succ, List.getElem_toArray, List.getElem_cons_zero, List.getElem_cons_succ]
    refine wpAny_take (i := 15) (v := ?_) rfl (by kernel_rfl) (by kernel_rfl) (by kernel_rfl) (fun _ _ _ h => h) (Or.inl ⟨by rfl, ?_⟩) ?_
    case refine_2 => (intro w; go_simp; try with_reducible rfl)
    try simp only [Act.put, List.setIfInBounds_toArray, List.set_cons_zero, List.set_cons_succ, List.getElem_toArray, List.getElem_cons_zero, List.getElem_cons_succ]
    refine wpAny_take (i := 16) (v := ?_) rfl (by kernel_rfl) (by kernel_rfl) (by kernel_rfl) (fun _ _ _ h => h) (Or.inl ⟨by rfl, ?_⟩) ?_
    case refine_2 => (intro w; go_simp; try with_reducible rfl)
    try simp only [Act.put, List.setIfInBounds_toArray, List.set_cons_zero, List.set_cons_succ, List.getElem_toArray, List.getElem_cons_zero, List.getElem_cons_succ]
    refine wpAny_ready (rs := [17]) (by kernel_rfl) (by simp) ?_
    refine AllReady.cons rfl (fun K hK => ?_) AllReady.nil
    go_simp
    go_wp2_with (go_at_call 29; refine (W6.out _).mono ?_; rintro e w6 ⟨rfl, hb6⟩)
    refine wpAny_take (i := 18) (v := ?_) rfl (by kernel_rfl) (by kernel_rfl) (by kernel_rfl) (fun _ _ _ h => h) (Or.inl ⟨by rfl, ?_⟩) ?_
    case refine_2 => (intro w; go_simp; try with_reducible rfl)
    try simp only [Act.put, List.setIfInBounds_toArray, List.set_cons_zero, List.set_cons_succ, List.getElem_toArray, List.getElem_cons_zero, List.getElem_cons_succ]
    refine wpAny_take (i := 19) (v := ?_) rfl (by kernel_rfl) (by kernel_rfl) (by kernel_rfl) (fun _ _ _ h => h) (Or.inl ⟨by rfl, ?_⟩) ?_
    case refine_2 => (intro w; go_simp; try with_reducible rfl)
    try simp only [Act.put, List.setIfInBounds_toArray, List.set_cons_zero, List.set_cons_succ, List.getElem_toArray, List.getElem_cons_zero, List.getElem_cons_succ]
    refine wpAny_done (by kernel_rfl) ?_ _
    go_wp2
    go_ret
    exact ⟨rfl, below_next (hb14.drew) hb6⟩
end Go.Proofs.Ytfbchegfkilhpaa.Num
