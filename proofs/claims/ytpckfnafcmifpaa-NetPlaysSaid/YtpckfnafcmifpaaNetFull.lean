/- Layer 36 (net): the law NetFull. -/
import Derived.Test.YtpckfnafcmifpaaNetWorks
namespace Go.Proofs.Ytpckfnafcmifpaa.Net
open Go.RowKit Go.Proofs.Ytpckfnafcmifpaa.Mem

/-- bytes, of whatever numbers -/
def U8s (vs : List Value) : Prop := ∀ v ∈ vs, ∃ z : Int, v = .int .u8 z
theorem u8s_bb (l : List Nat) : U8s (BB l) := fun v hv => by
  obtain ⟨x, _, rfl⟩ := List.mem_map.1 hv
  exact ⟨_, rfl⟩
theorem u8s_set {vs : List Value} (h : U8s vs) (k : Nat) (z : Int) : U8s (vs.set k (.int .u8 z)) := fun v hv => by
  rcases List.mem_or_eq_of_mem_set hv with h1 | rfl
  · exact h v h1
  · exact ⟨z, rfl⟩
/-- a net, and bytes of another block that are written -/
def Fst (w W : World) (S : Nat → Prop) (g : Nat) (xs : List OneM) (v : Value) (vs : List Value) : Prop :=
  Below w.heap.size w W ∧ Nst W S g xs ∧ (∀ k, S k → w.heap.size ≤ k) ∧ U8s vs ∧ Own W 0 5 v vs ∧ ∀ k, v.ownBlock = some k → ¬ S k ∧ w.heap.size ≤ k
theorem Fst.goes {w W W' : World} {S S' : Nat → Prop} {g : Nat} {xs xs' : List OneM} {v : Value} {vs : List Value} (h : Fst w W S g xs v vs) (hN : Nst W' S' g xs') (hG : Goes S W S' W') : Fst w W' S' g xs' v vs := by
  obtain ⟨h1, h2, h3, h4, h5, h6⟩ := h
  refine ⟨h1.trans (hG.below h1.size h3), hN, hG.base h1.size h3, h4, h5.upd hG.1 fun k hk => (h6 k hk).1, fun k hk => ⟨fun e => ?_, (h6 k hk).2⟩⟩
  rcases hG.2 k e with h7 | h7
  · exact (h6 k hk).1 h7
  · exact absurd (h5.lt k hk).2 (Nat.not_lt.2 h7)
theorem Fst.looked {w W W' : World} {S : Nat → Prop} {g : Nat} {xs : List OneM} {v v' : Value} {vs vs' : List Value} (h : Fst w W S g xs v vs) (hb : Below W.heap.size W W') (hu : U8s vs') (ho : Own W' W.heap.size 5 v' vs') : Fst w W' S g xs v' vs' := by
  obtain ⟨h1, h2, h3, h4, h5, h6⟩ := h
  refine ⟨h1.trans (hb.mono h1.size), h2.next hb, h3, hu, ho.mono (Nat.zero_le _), fun k hk => ⟨fun e => ?_, Nat.le_trans h1.size (ho.lt k hk).1⟩⟩
  exact absurd (h2.2.1 k e) (Nat.not_lt.2 (ho.lt k hk).1)
theorem Fst.spot {w W : World} {S : Nat → Prop} {g : Nat} {xs : List OneM} {A : Option Addr} {n c : Nat} {vs : List Value} (h : Fst w W S g xs (.slice A n c) vs) {k : Nat} (hk : k < vs.length) :
    ∃ r z, A = some ⟨r, 0, none⟩ ∧ r < W.heap.size ∧ W.cell? ⟨r, k, none⟩ = some (.int .u8 z) ∧ W.frozen? ⟨r, k, none⟩ = false ∧ ∀ y : Int, Fst w (W.setCell ⟨r, k, none⟩ (.int .u8 y)) S g xs (.slice (some ⟨r, 0, none⟩) n c) (vs.set k (.int .u8 y)) := by
  obtain ⟨h1, h2, h3, h5, h6, h7⟩ := h
  obtain ⟨v, hv⟩ : ∃ v, vs[k]? = some v := ⟨_, List.getElem?_eq_getElem hk⟩
  obtain ⟨z, rfl⟩ := h5 v (List.mem_of_getElem? hv)
  obtain ⟨r, rfl, -, hr, hc, hf, hst⟩ := h6.spot hv
  refine ⟨r, z, rfl, hr, hc, hf, fun y => ?_⟩
  obtain ⟨s1, -⟩ := hst (.int .u8 y)
  obtain ⟨n1, n2⟩ := h7 r rfl
  have hU : Upd (fun k => k = r) W (W.setCell ⟨r, k, none⟩ (.int .u8 y)) := (Upd.refl (fun k => k = r) W).setCell (p := ⟨r, k, none⟩) (.inl rfl) _
  exact ⟨h1.setCell (p := ⟨r, k, none⟩) n2 _, h2.upd hU fun k hk e => n1 (by rw [← e]; exact hk), h3, u8s_set h5 k y, s1, h7⟩
theorem at_some {xs : List OneM} (pick : Int) (h : 0 < xs.length) : ∃ x, xs[(atI xs.length pick).toNat]? = some x := by
  obtain ⟨h1, h2⟩ := at_range pick h
  exact ⟨_, List.getElem?_eq_getElem (by omega)⟩
set_option maxRecDepth 100000 in
set_option maxHeartbeats 8000000 in
theorem full_law (A : Option Addr) (c : Nat) (b : List Nat) (pick : Int) (w : World) (hl : AllB b) (hr : Rd w w.heap.size A (BB b)) (hsz : b.length ≤ 140737488351232) :
    Calls Try.prog 6 #[.slice A b.length c, .int .i64 pick] w fun e w' => e = .returned (.bool true) ∧ Below w.heap.size w w' := by
  have CW := kept (fun W => nworks_any W)
  by_cases hbig : 100 < b.length
  · clear hr hl
    generalize b.length = N at *
    go_enter Try.func6, Try.ntmps6
    go_wp2_with fail
    refine (CW.out _).mono ?_
    rintro en w2 ⟨rfl, hb2⟩
    go_wp2
    go_ret
    exact ⟨rfl, hb2⟩
  have h100 : b.length ≤ 100 := by omega
  have hnl : NLen w (.pointer none) 0 := .inl ⟨rfl, rfl⟩
  have C1 := kept (take_no (.pointer none) pick w hnl)
  have C2 := kept (send_nil 1 A b.length c w)
  have C3 := kept (twice_no (.pointer none) pick w hnl)
  have C4 := kept (spoil_no (.pointer none) pick 1 1 w hnl)
  have C5 := kept (len_any (.pointer none) 0 w hnl)
  have HL := kept hl
  have HR := kept hr
  have HAL : Kept (Below w.heap.size w ((w.alloc (.cells #[.slice none 0 0] 80)).alloc (.cells #[] 5)) ∧ Nst ((w.alloc (.cells #[.slice none 0 0] 80)).alloc (.cells #[] 5)) (fun k => k = w.heap.size) w.heap.size []) := by
    have hP : Nst (w.alloc (.cells #[.slice none 0 0] 80)) (fun k => k = w.heap.size) w.heap.size [] := ⟨rfl, (fun k hk => by subst hk; simp), by simp, none, 0, Blk.new w [.slice none 0 0] _, Elem.Own.nilv _ _ _ _, (fun x hx => by cases hx), fun x hx => by cases hx⟩
    exact ⟨((Below.refl _ _).alloc (Nat.le_refl _) _).alloc (by simp) _, hP.next ((Below.refl _ _).alloc (Nat.le_refl _) _)⟩
  have hown1 : Own ((w.alloc (.cells #[.slice none 0 0] 80)).alloc (.cells #[] 5)) (w.heap.size + 1) 5 (.slice (some ⟨w.heap.size + 1, 0, none⟩) 0 0) (BB []) := by
    have h1 := Own.new (w.alloc (.cells #[.slice none 0 0] 80)) (w.heap.size + 1) 5 [] (by simp) (by simp)
    rw [show (w.alloc (.cells #[.slice none 0 0] 80)).heap.size = w.heap.size + 1 from by simp] at h1
    exact h1
  have hr1 := (hr.alloc (Nat.le_refl _) (.cells #[.slice none 0 0] 80)).alloc (by simp) (.cells #[] 5)
  have hbs : ([] : List Nat).length + b.length ≤ 140737488355328 := by simp; omega
  clear hr hl hsz
  go_enter Try.func6, Try.ntmps6
  go_wp2_with fail
  refine C1.out.mono ?_
  rintro en w1 ⟨rfl, hw⟩
  subst hw
  go_wp2_with fail
  refine C2.out.mono ?_
  rintro en w1 ⟨rfl, hw⟩
  subst hw
  go_wp2_with fail
  refine C3.out.mono ?_
  rintro en w1 ⟨rfl, hw⟩
  subst hw
  go_wp2_with fail
  refine C4.out.mono ?_
  rintro en w1 ⟨rfl, hw⟩
  subst hw
  go_wp2_with fail
  refine C5.out.mono ?_
  rintro en w1 ⟨rfl, hw⟩
  subst hw
  clear C1 C2 C3 C4 C5
  go_wp2_with (at_builtin; refine wpl_appC rfl (.tmp 60) (.tmp 61) rfl (w.heap.size + 1) _ [] rfl hown1 w.heap.size A _ c b rfl rfl hr1 hbs (by simp) ?_; intro Ao co wo ro hro howno hco hbo; obtain rfl : ro = b := hro.out; have HOW := kept howno; have HBO := kept hbo; clear hro howno hbo hown1 hr1)
  have HF0 : Kept (Fst w wo (fun k => k = w.heap.size) w.heap.size [] (.slice Ao ro.length co) (BB ro)) := by
    have hU : Upd (fun k => w.heap.size + 1 ≤ k) ((w.alloc (.cells #[.slice none 0 0] 80)).alloc (.cells #[] 5)) wo := ⟨HBO.out.os, HBO.out.tape, HBO.out.output, HBO.out.size, fun k hk hs => HBO.out.block k (by omega)⟩
    refine ⟨HAL.out.1.trans (HBO.out.mono (Nat.le_succ _)), HAL.out.2.upd hU fun k hk e => by omega, fun k hk => by omega, u8s_bb ro, HOW.out.mono (Nat.zero_le _), fun k hk => ?_⟩
    have := (HOW.out.lt k hk).1
    exact ⟨fun e => by omega, by omega⟩
  have hg0 : w.heap.size < wo.heap.size := HF0.out.2.1.2.1 _ HF0.out.2.1.1
  clear HAL HOW HBO
  generalize w.heap.size = g at hg0 HF0 ⊢
  go_loopw [11] (fun i wr => ∃ (k : Nat) (S : Nat → Prop) (xs : List OneM), k ≤ 512 ∧ i = .int .i64 (k : Int) ∧ Kept (xs.length = k ∧ (∀ x ∈ xs, x.b = ro) ∧ Fst w wr S g xs (.slice Ao ro.length co) (BB ro))) (fun i _ => 512 - (intOf i).toNat)
  case atStart => exact ⟨0, _, [], by omega, rfl, ⟨rfl, (fun x hx => by cases hx), HF0.out⟩⟩
  case round =>
    obtain ⟨k, S, xs, hk, rfl, hin⟩ := hrel
    clear HF0
    by_cases hlt : k < 512
    · obtain ⟨hxl, hxb, hF⟩ := hin.out
      have CS := kept (send_yes S g xs (k : Int) Ao ro.length co ro wr hF.2.1 (by omega) rfl hF.2.2.2.2.1.rd ⟨HL.out, (show ro.length ≤ 140737488351232 by omega), (show (-9223372036854775808 : Int) ≤ (k : Int) by omega), (show (k : Int) ≤ 9223372036854775807 by omega)⟩)
      have hki : (k : Int) < 512 := by omega
      clear hxl hxb hF
      go_wp2_with fail
      refine CS.out.mono ?_
      rintro en w2 ⟨rfl, S2, A2, c2, hN2, hG2⟩
      have HIN2 : Kept ((xs ++ [(⟨(k : Int), A2, ro, c2, false⟩ : OneM)]).length = k + 1 ∧ (∀ x ∈ xs ++ [(⟨(k : Int), A2, ro, c2, false⟩ : OneM)], x.b = ro) ∧ Fst w w2 S2 g (xs ++ [(⟨(k : Int), A2, ro, c2, false⟩ : OneM)]) (.slice Ao ro.length co) (BB ro)) := by
        refine ⟨by rw [List.length_append, hin.out.1]; rfl, fun x hx => ?_, hin.out.2.2.goes hN2 hG2⟩
        rcases List.mem_append.1 hx with h1 | h1
        · exact hin.out.2.1 x h1
        · obtain rfl : x = _ := List.mem_singleton.1 h1
          rfl
      clear hN2 hG2 CS hin
      go_wp2
      go_roundw
      case rel => exact ⟨k + 1, S2, _, by omega, by go_num, HIN2⟩
      case measure => simp [intOf]; omega
    · obtain rfl : k = 512 := by omega
      obtain ⟨hxl, hxb, hF⟩ := hin.out
      have HF := kept hF
      have HXB := kept hxb
      have HXL := kept hxl
      clear hin hxl hxb hF hlt hk
      go_wp2
      go_loopw [73] (fun i wr => ∃ (k : Nat) (vs : List Value), k ≤ ro.length ∧ i = .int .i64 (k : Int) ∧ vs.length = ro.length ∧ Kept (Fst w wr S g xs (.slice Ao ro.length co) vs)) (fun i _ => ro.length - (intOf i).toNat)
      case atStart => exact ⟨0, _, Nat.zero_le _, rfl, BB_length ro, HF⟩
      case round =>
        obtain ⟨k, vs, hk, rfl, hvl, hin⟩ := hrel
        clear HF
        by_cases hlt : k < ro.length
        · obtain ⟨r, z, rfl, hr, hc, hf, hst⟩ := hin.out.spot (k := k) (by omega)
          have HST := kept hst
          have hkn : (k : Int) < (ro.length : Int) := by omega
          clear hst hin
          go_wp2
          go_roundw
          case rel => exact ⟨k + 1, _, by omega, by go_num, by rw [List.length_set]; exact hvl, ⟨HST.out _⟩⟩
          case measure => simp [intOf]; omega
        · obtain ⟨x, hx⟩ := at_some (xs := xs) pick (by rw [HXL.out]; omega)
          have hxb := HXB.out x (List.mem_of_getElem? hx)
          have CL := look_at S g xs pick x wr hin.out.2.1 hx
          have CL2 := kept (fun W (hN : Nst W S g xs) => look_at S g xs pick x W hN hx)
          obtain ⟨xt, xA, xb, xc, xbad⟩ := x
          dsimp only at hxb
          subst hxb
          unfold LooksAt at CL CL2
          dsimp only [OneM.msg] at CL CL2
          have CL := kept CL
          clear hx
          go_wp2_with fail
          refine CL.out.mono ?_
          rintro en w2 ⟨A2, c2, rfl, ho2, hc2, hb2⟩
          have HF2 := kept (hin.out.looked hb2 (u8s_bb xb) ho2)
          clear CL ho2 hb2 hin
          go_wp2
          go_loopw [91] (fun i wr => ∃ (k : Nat) (vs : List Value), k ≤ xb.length ∧ i = .int .i64 (k : Int) ∧ vs.length = xb.length ∧ Kept (Fst w wr S g xs (.slice A2 xb.length c2) vs)) (fun i _ => xb.length - (intOf i).toNat)
          case atStart => exact ⟨0, _, Nat.zero_le _, rfl, BB_length xb, HF2⟩
          case round =>
            obtain ⟨k2, vs2, hk2, rfl, hvl2, hin2⟩ := hrel
            clear HF2
            by_cases hlt2 : k2 < xb.length
            · obtain ⟨r2, z2, rfl, hr2, hc2', hf2, hst2⟩ := hin2.out.spot (k := k2) (by omega)
              have HST2 := kept hst2
              have hkn2 : (k2 : Int) < (xb.length : Int) := by omega
              clear hst2 hin2
              go_wp2
              go_roundw
              case rel => exact ⟨k2 + 1, _, by omega, by go_num, by rw [List.length_set]; exact hvl2, ⟨HST2.out _⟩⟩
              case measure => simp [intOf]; omega
            · have CL3 := kept (CL2.out _ hin2.out.2.1)
              go_wp2_with fail
              refine CL3.out.mono ?_
              rintro en w3 ⟨A3, c3, rfl, ho3, hc3, hb3⟩
              have HF3 := kept (hin2.out.looked hb3 (u8s_bb xb) ho3)
              have CE := equal36_any w3 _ _ A3 A xb.length xb.length c3 c xb xb rfl rfl HL.out HL.out ho3.rd (HR.out.next HF3.out.1)
              rw [decide_eq_true rfl] at CE
              have CE := kept CE
              clear CL3 ho3 hb3 hin2
              go_wp2_with fail
              refine CE.out.mono ?_
              rintro en w4 ⟨rfl, q, rfl⟩
              have hN4 : Nst (w3.drewN q) S g xs := HF3.out.2.1
              have CS := kept (send_full S g xs 1 A xb.length c (w3.drewN q) hN4 (by rw [HXL.out]; omega))
              go_wp2_with fail
              refine CS.out.mono ?_
              rintro en w5 ⟨rfl, hw⟩
              subst hw
              obtain ⟨x2, hx2⟩ := at_some (xs := xs) pick (by rw [HXL.out]; omega)
              have CT := twice_at S g xs pick x2 (w3.drewN q) hN4 hx2
              have h512 : 512 ≤ xs.length := by rw [HXL.out]; omega
              rw [if_pos h512] at CT
              simp only [if_pos h512] at CT
              have CT := kept CT
              clear CE CS hx2
              go_wp2_with fail
              refine CT.out.mono ?_
              rintro en w6 ⟨rfl, S6, A6, c6, hN6, hG6⟩
              have HF6 := kept ((show Fst w (w3.drewN q) S g xs _ _ from ⟨HF3.out.1.trans (below_draw _ _ q), hN4, HF3.out.2.2.1, HF3.out.2.2.2.1, HF3.out.2.2.2.2.1, HF3.out.2.2.2.2.2⟩).goes hN6 hG6)
              have CN := len_any _ _ w6 hN6.len
              rw [HXL.out] at CN
              have CN := kept CN
              clear hN6 hG6 CT hN4
              go_wp2_with fail
              refine CN.out.mono ?_
              rintro en w7 ⟨rfl, hw⟩
              subst hw
              go_wp2_with fail
              refine (CW.out _).mono ?_
              rintro en w8 ⟨rfl, hb8⟩
              have HB8 := kept (HF6.out.1.trans (hb8.mono HF6.out.1.size))
              clear hb8
              go_wp2
              go_ret
              exact ⟨rfl, HB8.out⟩
end Go.Proofs.Ytpckfnafcmifpaa.Net
