/- The laws of layer 40, continued. -/
import Derived.Test.YtijdkbejlaebhaaMaskLaws
namespace Go.Proofs.Ytijdkbejlaebhaa.Mask
open Go.RowKit Go.Proofs.Ytijdkbejlaebhaa.Mem

set_option maxHeartbeats 1000000 in
theorem tells_law (A B : Option Addr) (c d : Nat) (m : List Nat) (i : Int) (ns : List Int) (w : World) (hm : AllW m) (hns : AllI ns) (r1 : Rd w w.heap.size A (WB m)) (r2 : Rd w w.heap.size B (IB ns)) (hc : m.length ≤ c) (hi : i ≤ 9223372036854775807) (hi0 : -9223372036854775808 ≤ i) :
    Calls Try.prog 3 #[.slice A m.length c, .int .i64 i, .slice B ns.length d] w fun e w' => e = .returned (.bool true) ∧ Below w.heap.size w w' := by
  by_cases hbig : m.length ≤ 20 ∧ ns.length ≤ 60
  · obtain ⟨hl1, hl2⟩ := hbig
    have HT := kept (of_take ns)
    have hpl : (putI m i).length ≤ 20 := by have := put_length m i; omega
    have hall : (allI m).length ≤ 1280 := by have h := allTo_length m (64 * m.length); unfold allI; omega
    have hal := kept (allI_length m)
    go_enter Try.func3, Try.ntmps3
    go_wp2
    go_loopw [7, 8] (fun v j wr => ∃ (k : Nat) (D : Option Addr) (cc : Nat) (r : List Nat), k ≤ ns.length ∧ j = .int .i64 (k : Int) ∧ v = .slice D r.length cc ∧ Kept (r = ofI (ns.take k)) ∧ Own wr w.heap.size 35 (.slice D r.length cc) (WB r) ∧ Below w.heap.size w wr) (fun _ j _ => ns.length - (intOf j).toNat)
    case atStart => exact ⟨0, none, 0, [], Nat.zero_le _, rfl, rfl, ⟨rfl⟩, Own.nilv _ _ _, Below.refl _ _⟩
    case round =>
      obtain ⟨k, D, cc, r, hk, rfl, rfl, hr', hown, hb⟩ := hrel
      have hsw := hb.size
      by_cases hlt : k < ns.length
      · obtain ⟨b, o, rfl, hbb, hcell⟩ := (r2.below hb).at_ (IB_get ns k hlt)
        have hx := hns (ns.getD k 0) (by have : ns.getD k 0 = ns[k] := by simp [List.getD, hlt]
                                         rw [this]; exact List.getElem_mem hlt)
        have hT := HT.out k hlt
        rw [← hr'.out] at hT
        have hrl : r.length ≤ 16 := by rw [hr'.out]; exact of_length _
        have hra : AllW r := by rw [hr'.out]; exact of_all _
        have HP := kept (rput_any D r.length cc r (ns.getD k 0) wr rfl hra hown.rd (ownW_cap hown) (by omega) hx.2 hx.1)
        have HR := kept hT
        generalize ns.getD k 0 = x at *
        clear hT hr'
        go_wp2_with fail
        refine HP.out.mono ?_
        rintro e w1 ⟨A1, c1, rfl, hown1, hc1, hb1⟩
        go_wp2
        go_roundw
        case rel => exact ⟨k + 1, A1, c1, _, by omega, by go_num, rfl, ⟨HR.out.symm⟩, hown1.mono hsw, hb.trans (hb1.mono hsw)⟩
        case measure => simp [intOf]; omega
      · have hz : r = ofI ns := by rw [hr'.out, List.take_of_length_le (by omega)]
        have hra : AllW r := by rw [hz]; exact of_all _
        have hrl : r.length ≤ 16 := by rw [hz]; exact of_length _
        have hzz := kept hz
        clear hz hr'
        have r1 := r1.next hb
        have r2 := r2.next hb
        have r3 := hown.rd
        go_wp2_with fail
        refine (rall_any A _ c m _ rfl hm r1 (by omega)).mono ?_
        rintro e w1 ⟨A1, c1, rfl, o1, hc1, h1⟩
        have hs1 := h1
        have hb := below_next hb hs1
        have r1 := r1.next hs1
        have r2 := r2.next hs1
        have r3 := r3.next hs1
        have p_l := o1.rd
        go_wp2_with fail
        refine (has_any A _ c m i _ rfl hm r1 hi hi0).mono ?_
        rintro e w' ⟨rfl, rfl⟩
        go_wp2_with fail
        refine (rhas_any A _ c m i _ rfl hm r1 hi hi0).mono ?_
        rintro e w' ⟨rfl, rfl⟩
        go_wp2_with fail
        refine (put_any A _ c m i _ rfl hm r1 (by omega) hi hi0).mono ?_
        rintro e w2 ⟨A2, c2, rfl, o2, hc2, h2⟩
        have hs2 := h2
        have hb := below_next hb hs2
        have r1 := r1.next hs2
        have r2 := r2.next hs2
        have r3 := r3.next hs2
        have p_l := p_l.next hs2
        have p_a := o2.rd
        go_wp2_with fail
        refine (rput_any A _ c m i _ rfl hm r1 hc (by omega) hi hi0).mono ?_
        rintro e w3 ⟨A3, c3, rfl, o3, hc3, h3⟩
        have hs3 := h3
        have hb := below_next hb hs3
        have r1 := r1.next hs3
        have r2 := r2.next hs3
        have r3 := r3.next hs3
        have p_l := p_l.next hs3
        have p_a := p_a.next hs3
        have p_b := o3.rd
        go_wp2_with fail
        refine (eq_any _ _ A2 A3 _ _ _ _ (putI m i) (putI m i) _ rfl rfl p_a p_b (by omega)).mono ?_
        rintro e w' ⟨rfl, q4, rfl⟩
        have hs4 : Below w3.heap.size w3 (w3.drewN (q4)) := below_draw _ _ _
        have hb := below_next hb hs4
        have r1 := r1.next hs4
        have r2 := r2.next hs4
        have r3 := r3.next hs4
        have p_l := p_l.next hs4
        have p_a := p_a.next hs4
        have p_b := p_b.next hs4
        rw [decide_eq_true rfl]
        go_wp2_with fail
        refine (of_any B _ d ns _ rfl hns r2 (by omega)).mono ?_
        rintro e w5 ⟨A5, c5, rfl, o5, hc5, h5⟩
        have hs5 := h5
        have hb := below_next hb hs5
        have r1 := r1.next hs5
        have r2 := r2.next hs5
        have r3 := r3.next hs5
        have p_l := p_l.next hs5
        have p_o := o5.rd
        go_wp2_with fail
        refine (eq_any _ _ A5 D _ _ _ _ (ofI ns) r _ rfl rfl p_o r3 (by rw [← hzz.out]; omega)).mono ?_
        rintro e w' ⟨rfl, q6, rfl⟩
        have hs6 : Below w5.heap.size w5 (w5.drewN (q6)) := below_draw _ _ _
        have hb := below_next hb hs6
        have r1 := r1.next hs6
        have r2 := r2.next hs6
        have r3 := r3.next hs6
        have p_l := p_l.next hs6
        have p_o := p_o.next hs6
        rw [decide_eq_true hzz.out.symm]
        go_wp2_with fail
        refine (all_any A _ c m _ rfl hm r1 (by omega)).mono ?_
        rintro e w7 ⟨A7, c7, rfl, o7, hc7, h7⟩
        have hs7 := h7
        have hb := below_next hb hs7
        have r1 := r1.next hs7
        have p_l := p_l.next hs7
        have p_k := o7.rd
        go_wp2_with fail
        refine (ints_any _ _ A7 A1 _ _ _ _ (allI m) (allI m) _ rfl rfl p_k p_l (by omega)).mono ?_
        rintro e w' ⟨rfl, q8, rfl⟩
        have hs8 : Below w7.heap.size w7 (w7.drewN (q8)) := below_draw _ _ _
        have hb := below_next hb hs8
        have r1 := r1.next hs8
        have p_l := p_l.next hs8
        have p_k := p_k.next hs8
        rw [decide_eq_true rfl]
        go_wp2_with fail
        refine (size_any A _ c m _ rfl hm r1 (by omega)).mono ?_
        rintro e w9 ⟨rfl, h9⟩
        have hs9 := h9
        have hb := below_next hb hs9
        have r1 := r1.next hs9
        rw [← hal.out]
        go_wp2_with fail
        refine (works_any _).mono ?_
        rintro e w10 ⟨rfl, h10⟩
        have hs10 := h10
        have hb := below_next hb hs10
        have r1 := r1.next hs10
        go_wp2_with fail
        go_ret
        exact ⟨rfl, hb⟩
  · have hcase : 20 < m.length ∨ (¬ 20 < m.length ∧ 60 < ns.length) := by omega
    clear hbig
    rcases hcase with h | ⟨h, h'⟩
    all_goals
      go_enter Try.func3, Try.ntmps3
      go_wp2_with fail
      refine (works_any _).mono ?_
      rintro e w1 ⟨rfl, hb⟩
      go_wp2_with fail
      go_ret
      exact ⟨rfl, hb⟩
end Go.Proofs.Ytijdkbejlaebhaa.Mask
