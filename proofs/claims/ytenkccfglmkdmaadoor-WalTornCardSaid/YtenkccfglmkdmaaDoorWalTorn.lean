/- The law WalTorn. -/
import Derived.Test.YtenkccfglmkdmaaDoorWalBack
namespace Go.Proofs.YtenkccfglmkdmaaDoor.Wal
open Go.RowKit Go.Proofs.YtenkccfglmkdmaaDoor.Mem Go.Proofs.YtenkccfglmkdmaaDoor.Num Go.Proofs.YtenkccfglmkdmaaDoor.Crc Go.Proofs.YtenkccfglmkdmaaDoor.Shift

theorem turnL_set {q : List Nat} (h : q ≠ []) : turnL true q = q.set (q.length - 1) (q.getD (q.length - 1) 0 ^^^ 1) := by
  unfold turnL
  rw [if_pos rfl]
  rcases hr : q.reverse with _ | ⟨x, s⟩
  · exact absurd (by simpa using hr) h
  · have hq : q = s.reverse ++ [x] := by rw [← List.reverse_reverse q, hr]; simp
    subst hq
    simp [List.getD]
theorem u8_xor1 (x : Nat) (hx : x < 256) : bits .xor .u8 (x : Int) 1 = ((x ^^^ 1 : Nat) : Int) := u8_xor_nat x 1 hx (by decide)
/-- records cut off at K, the last byte turned or not: what is whole, and what is behind it -/
theorem torn_split {L : List (List Nat)} (hL : ∀ r ∈ L, r.length ≤ 500) {j K : Nat} {t : Bool} (hj : j ≤ L.length) (hK : K ≤ (recsB L).length) (h1 : (recsB (L.take j)).length ≤ K) (h2 : t = true → (recsB (L.take j)).length < K)
    (h3 : ∀ r, L[j]? = some r → K < (recsB (L.take j)).length + (recB r).length ∨ (K = (recsB (L.take j)).length + (recB r).length ∧ t = true)) :
    ∃ q, turnL t ((recsB L).take K) = recsB (L.take j) ++ q ∧ oneM q = none := by
  by_cases hlt : j < L.length
  · obtain ⟨r, hr⟩ : ∃ r, L[j]? = some r := ⟨_, List.getElem?_eq_getElem hlt⟩
    have h4 := h3 r hr
    have hle : K - (recsB (L.take j)).length ≤ (recB r).length := by omega
    have e1 : recsB L = recsB (L.take j) ++ (recB r ++ recsB (L.drop (j + 1))) := by
      obtain ⟨_, e⟩ := List.getElem?_eq_some_iff.1 hr
      have : L = L.take j ++ (r :: L.drop (j + 1)) := by rw [← e, ← List.drop_eq_getElem_cons hlt, List.take_append_drop]
      conv => lhs; rw [this]
      simp [recsB]
    have e2 : (recsB L).take K = recsB (L.take j) ++ (recB r).take (K - (recsB (L.take j)).length) := by
      rw [e1, List.take_append, List.take_of_length_le h1, List.take_append_of_le_length hle]
    refine ⟨turnL t ((recB r).take (K - (recsB (L.take j)).length)), ?_, one_torn (by have := hL r (List.mem_of_getElem? hr); omega) hle (by rcases h4 with h | ⟨h, h'⟩; exact .inl (by omega); exact .inr h')⟩
    rw [e2]
    by_cases hq : (recB r).take (K - (recsB (L.take j)).length) = []
    · have hz : K - (recsB (L.take j)).length = 0 := by
        have := congrArg List.length hq
        rw [List.length_take] at this
        have h5 := recB_ge r
        simp at this
        rcases this with h | h
        · exact h
        · rw [h] at h5; simp at h5
      have ht : t = false := by
        cases t
        · rfl
        · have := h2 rfl; omega
      subst ht
      rfl
    · exact turnL_app hq
  · have e1 : L.take j = L := List.take_of_length_le (by omega)
    rw [e1] at h1 h2 ⊢
    have ht : t = false := by
      cases t
      · rfl
      · have := h2 rfl; omega
    subst ht
    refine ⟨[], ?_, one_nil⟩
    rw [List.append_nil]
    show (recsB L).take K = recsB L
    exact List.take_of_length_le (by omega)
set_option maxRecDepth 100000 in
set_option maxHeartbeats 4000000 in
theorem torn_law (X : Option Addr) (c : Nat) (ps : List Part) (cut : Nat) (turn : Bool) (w : World) (hT : Tab w) (hX : RdParts w w.heap.size X ps) (hps : ps.length ≤ 9223372036854775807) (hpc : ps.length ≤ c) (hcu : cut < 65536) :
    Calls Tryd.prog 6 #[.slice X ps.length c, .int .u16 (cut : Int), .bool turn] w fun e w' => e = .returned (.bool true) ∧ Below w.heap.size w w' := by
  have HT := kept (fun (W : World) (h : Below w.heap.size w W) => hT.next h)
  have CF := kept (rfew_any X _ c ps 20 w rfl hX hps (by decide))
  by_cases hbad : few (bodies ps) 20 = false
  · have C := kept (works_any w hT)
    rw [hbad] at CF
    clear hbad
    go_enter Tryd.func6, Tryd.ntmps6
    go_wp2_with fail
    refine CF.out.mono ?_
    rintro e w2 ⟨rfl, rfl⟩
    go_wp2_with fail
    refine C.out.mono ?_
    rintro e w2 ⟨rfl, hb2⟩
    go_wp2
    go_ret
    exact ⟨rfl, hb2⟩
  have hfew : few (bodies ps) 20 = true := by simpa using hbad
  rw [hfew] at CF
  obtain ⟨f1, f2, f3⟩ := few_true hfew
  rw [bodies_length] at f1
  clear hbad hfew
  have HPX := kept (fun (W : World) (h : Below w.heap.size w W) => hX.next h)
  have HAP := kept (show ∀ r ∈ bodies ps, AllB r from fun r hr => by
    unfold bodies at hr
    obtain ⟨p, hp, rfl⟩ := List.mem_map.1 hr
    exact (hX.2 p hp).2.1)
  have HF2 := kept f2
  have HF3 := kept (fun j => Nat.le_trans (recsB_take_le (bodies ps) j) f3)
  clear hX hT f2
  go_enter Tryd.func6, Tryd.ntmps6
  go_wp2_with fail
  refine CF.out.mono ?_
  rintro e w2 ⟨rfl, rfl⟩
  clear CF
  go_upto_block 0 with fail
  go_cut [7] (fun v wx => ∃ (D : Option Addr) (cc : Nat) (r : List Nat), v = .slice D r.length cc ∧ Kept (r = recsB (bodies ps)) ∧ r.length ≤ 10260 ∧ Own wx w.heap.size 5 (.slice D r.length cc) (BB r) ∧ Below w.heap.size w wx)
  case first =>
    go_wp2
    go_loopw [7, 8] (fun v i wr => ∃ (j : Nat) (D : Option Addr) (cc : Nat) (r : List Nat), j ≤ ps.length ∧ i = .int .i64 (j : Int) ∧ v = .slice D r.length cc ∧ Kept (r = recsB ((bodies ps).take j)) ∧ Own wr w.heap.size 5 (.slice D r.length cc) (BB r) ∧ Below w.heap.size w wr) (fun _ i _ => ps.length - (intOf i).toNat)
    case atStart => exact ⟨0, none, 0, [], Nat.zero_le _, rfl, rfl, ⟨by simp [recsB]⟩, Own.nilv _ _ _, Below.refl _ _⟩
    case round =>
      obtain ⟨j, D, cc, r, hj, rfl, rfl, hr, hown, hb⟩ := hrel
      by_cases hlt : j < ps.length
      · obtain ⟨p, hp⟩ : ∃ p, ps[j]? = some p := ⟨_, List.getElem?_eq_getElem hlt⟩
        have hpb : (bodies ps)[j]? = some p.l := by unfold bodies; rw [List.getElem?_map, hp]; rfl
        obtain ⟨b, o, rfl, hbb, c0, rp, ap, lp⟩ := (HPX.out wr hb).at_ hp
        have hp5 := HF2.out p.l (List.mem_of_getElem? hpb)
        have C := kept (put_any p.A _ p.c p.l wr rfl (HT.out wr hb) ap rp (by omega))
        have HRT := kept (recsB_take hpb)
        have hrl : r.length ≤ 10260 := by rw [hr.out]; exact HF3.out j
        have hpl := recB_le p.l
        have HO := kept hown
        have HB := kept hb
        unfold Part.val at c0
        clear hp hpb rp ap lp hown hb
        go_wp2_with fail
        refine C.out.mono ?_
        rintro e w3 ⟨A3, c3, rfl, ho3, hc3, hb3⟩
        have ho := HO.out.below hb3 (Nat.le_refl _)
        have hb4 := HB.out.trans (hb3.mono HB.out.size)
        have hz : r.length + (recB p.l).length ≤ 140737488355328 := by omega
        have hr3 := ho3.rd
        have hs4 := hb4.size
        have HB4 := kept hb4
        clear hb3 ho3 hb4
        go_wp2_with (at_builtin; refine wpl_app rfl (.tmp 27) (.tmp 32) rfl w.heap.size _ r rfl ho _ _ _ _ (recB p.l) rfl rfl hr3 hz hs4 ?_; intro A5 c5 w5 r5 hr5 hown5 hg5 hb5)
        have HR5 : Kept (r5 = recsB ((bodies ps).take (j + 1))) := ⟨by rw [hr5.out, HRT.out, ← hr.out]⟩
        have HB5 := kept (HB4.out.trans hb5)
        clear hr5 hg5 hb5 ho hr3
        go_roundw
        case rel => exact ⟨j + 1, A5, c5, r5, by omega, by go_num, rfl, HR5, hown5, HB5.out⟩
        case measure => simp [intOf]; omega
      · have HE : Kept (r = recsB (bodies ps)) := ⟨by rw [hr.out, List.take_of_length_le (by rw [bodies_length]; omega)]⟩
        have hrl : r.length ≤ 10260 := by rw [hr.out]; exact HF3.out j
        clear hr
        go_wp2
        go_meet
        exact ⟨D, cc, r, rfl, HE, hrl, hown, hb⟩
  obtain ⟨D, cc, r, rfl, hre, hrl, hown, hb⟩ := hcut
  have hral : AllB r := by rw [hre.out]; exact recsB_all HAP.out
  obtain ⟨K, hK⟩ : ∃ K, cut % (r.length + 1) = K := ⟨_, rfl⟩
  have hKle : K ≤ r.length := by have := Nat.mod_lt cut (show 0 < r.length + 1 by omega); omega
  have hki : (cut : Int) % ((r.length : Int) + 1) = (K : Int) := by rw [← hK]; simp
  have HKI := kept hki
  have HRE := hre
  have HAR := kept hral
  have hcap := own_cap hown
  have HO := kept hown
  have HB := kept hb
  clear hK hki hre hral hown hb
  obtain ⟨wa, rfl⟩ : ∃ w, w = wc := ⟨_, rfl⟩
  go_upto_region 9 with fail
  rw [HKI.out]
  have hown0 : Own (wa.alloc (.cells #[] 5)) w.heap.size 5 (.slice (some ⟨wa.heap.size, 0, none⟩) 0 0) (BB []) := Own.new wa w.heap.size 5 [] HB.out.size (by simp)
  have hbA := HB.out.alloc HB.out.size (.cells #[] 5)
  have hrA := ((HO.out.alloc (.cells #[] 5)).rd).take K
  rw [BB_take] at hrA
  obtain ⟨rk, hrk⟩ : ∃ rk, r.take K = rk := ⟨_, rfl⟩
  have hrkl : rk.length = K := by rw [← hrk, List.length_take]; omega
  rw [hrk] at hrA
  have HRK := kept hrk
  have HRKL := kept hrkl
  have hz : ([] : List Nat).length + rk.length ≤ 140737488355328 := by simp; omega
  have HBA := kept hbA
  have hsA := hbA.size
  have hKc : K ≤ cc := by omega
  clear hbA hrk hrkl
  go_upto_region 10 with (at_builtin; refine wpl_app rfl (.tmp 40) (.tmp 43) rfl w.heap.size _ [] rfl hown0 _ _ _ _ rk rfl HRKL.out.symm hrA hz hsA ?_; intro A4 c4 w4 r4 hr4 hown4 hg4 hb4)
  obtain rfl : r4 = rk := hr4.out
  have HB4 := kept (HBA.out.trans hb4)
  have HO4 := kept hown4
  have HPX4 := kept (HPX.out w4 HB4.out)
  clear hr4 hg4 hb4 hown4 hrA hown0 hz hsA HBA
  go_upto_block 2 with fail
  go_cut [11, 12] (fun wv ev wx => ∃ j : Nat, j ≤ ps.length ∧ wv = .int .i64 (j : Int) ∧ ev = .int .i64 ((recsB ((bodies ps).take j)).length : Int) ∧ (recsB ((bodies ps).take j)).length ≤ K ∧ (turn = true → 0 < K → (recsB ((bodies ps).take j)).length < K) ∧
    Kept (∀ y, (bodies ps)[j]? = some y → K < (recsB ((bodies ps).take j)).length + (recB y).length ∨ (K = (recsB ((bodies ps).take j)).length + (recB y).length ∧ turn = true)) ∧ wx = w4)
  case first =>
    go_wp2
    go_loop [11, 12, 13] (fun wv ev iv => ∃ j E : Nat, j ≤ ps.length ∧ wv = .int .i64 (j : Int) ∧ ev = .int .i64 (E : Int) ∧ iv = .int .i64 (j : Int) ∧ Kept (E = (recsB ((bodies ps).take j)).length) ∧ E ≤ K ∧ (turn = true → 0 < K → E < K)) (fun _ _ i => ps.length - (intOf i).toNat)
    case atStart => exact ⟨0, 0, Nat.zero_le _, rfl, rfl, rfl, ⟨by simp [recsB]⟩, Nat.zero_le _, fun _ h => h⟩
    case round =>
      obtain ⟨j, E, hj, rfl, rfl, rfl, hE, hEK, htk⟩ := hrel
      have HTK := kept htk
      clear htk
      by_cases hlt : j < ps.length
      · obtain ⟨p, hp⟩ : ∃ p, ps[j]? = some p := ⟨_, List.getElem?_eq_getElem hlt⟩
        have hpb : (bodies ps)[j]? = some p.l := by unfold bodies; rw [List.getElem?_map, hp]; rfl
        obtain ⟨b, o, rfl, hbb, c0, rp, ap, lp⟩ := HPX4.out.at_ hp
        have hp5 := HF2.out p.l (List.mem_of_getElem? hpb)
        have C := kept (size_any p.A _ p.c p.l w4 rfl (by omega))
        have HRT := kept (recsB_take hpb)
        have hpl := recB_le p.l
        have hpg := recB_ge p.l
        have HPB' := kept hpb
        unfold Part.val at c0
        generalize hR : (recB p.l).length = R at *
        have HR := kept hR
        have HBRK : Kept ((K < E + R ∨ (K = E + R ∧ turn = true)) → ∀ y, (bodies ps)[j]? = some y → K < (recsB ((bodies ps).take j)).length + (recB y).length ∨ (K = (recsB ((bodies ps).take j)).length + (recB y).length ∧ turn = true)) := ⟨fun h y hy => by
          obtain rfl : p.l = y := Option.some.inj (HPB'.out.symm.trans hy)
          rw [HR.out, ← hE.out]
          exact h⟩
        have hrl : r.length ≤ 10260 := hrl
        clear hp hpb rp ap lp hR
        by_cases hgt : K < E + R
        · have HX := kept (HBRK.out (.inl hgt))
          clear HBRK
          go_wp2_with fail
          refine C.out.mono ?_
          rintro e w' ⟨rfl, rfl⟩
          go_wp2
          go_meet
          exact ⟨j, by omega, rfl, by rw [hE.out], by rw [← hE.out]; exact hEK, by rw [← hE.out]; exact HTK.out, HX, rfl⟩
        · by_cases heq : E + R = K
          · have hbb2 : (((E : Int) + (R : Int)) == (K : Int)) = true := by simp; omega
            have heq' := kept heq
            clear heq
            cases turn
            · have HE' : Kept (E + R = (recsB ((bodies ps).take (j + 1))).length) := ⟨by rw [HRT.out, List.length_append, ← hE.out, HR.out]⟩
              clear HBRK
              go_wp2_with fail
              refine C.out.mono ?_
              rintro e w' ⟨rfl, rfl⟩
              go_wp2
              go_round
              case rel => exact ⟨j + 1, E + R, by omega, by go_num, by go_num, by go_num, HE', by omega, fun h => by cases h⟩
              case measure => simp [intOf]; omega
            · have HX := kept (HBRK.out (.inr ⟨heq'.out.symm, rfl⟩))
              clear HBRK
              go_wp2_with fail
              refine C.out.mono ?_
              rintro e w' ⟨rfl, rfl⟩
              go_wp2
              go_meet
              exact ⟨j, by omega, rfl, by rw [hE.out], by rw [← hE.out]; exact hEK, by rw [← hE.out]; exact HTK.out, HX, rfl⟩
          · have hbb2 : (((E : Int) + (R : Int)) == (K : Int)) = false := by rw [beq_eq_false_iff_ne]; omega
            have HE' : Kept (E + R = (recsB ((bodies ps).take (j + 1))).length) := ⟨by rw [HRT.out, List.length_append, ← hE.out, HR.out]⟩
            have hlt2 : E + R < K := by omega
            clear HBRK heq
            go_wp2_with fail
            refine C.out.mono ?_
            rintro e w' ⟨rfl, rfl⟩
            go_wp2
            go_round
            case rel => exact ⟨j + 1, E + R, by omega, by go_num, by go_num, by go_num, HE', by omega, fun _ _ => by omega⟩
            case measure => simp [intOf]; omega
      · have hno : (bodies ps)[j]? = none := List.getElem?_eq_none (by rw [bodies_length]; omega)
        have HNO := kept hno
        clear hno
        go_wp2
        go_meet
        exact ⟨j, hj, rfl, by rw [hE.out], by rw [← hE.out]; exact hEK, by rw [← hE.out]; exact HTK.out, ⟨fun y hy => by rw [HNO.out] at hy; cases hy⟩, rfl⟩
  obtain ⟨j, hj, rfl, rfl, hEK, htk, hstop, rfl⟩ := hcut
  obtain ⟨E, hE⟩ : ∃ E, (recsB ((bodies ps).take j)).length = E := ⟨_, rfl⟩
  rw [hE] at hEK htk
  have HSTOP := hstop
  have HE := kept hE
  have HTK := kept htk
  obtain ⟨wb, rfl⟩ : ∃ w, w = wc := ⟨_, rfl⟩
  rw [hE]
  clear hE hstop htk
  go_upto_region 17 with fail
  go_cut [76] (fun p wx => p = .bool (turn && decide (0 < K)) ∧ wx = wb)
  case first =>
    by_cases hk0 : 0 < K
    all_goals
      cases turn
      all_goals
        go_wp2
        go_meet
        exact ⟨by first | (simp; done) | (simp; omega) | (simp [hk0]; done), rfl⟩
  obtain ⟨rfl, rfl⟩ := hcut
  go_upto_if 76 with fail
  go_cut [] (fun wx => ∃ m, Own wx w.heap.size 5 (.slice A4 r4.length c4) (BB m) ∧ Kept (m = turnL (turn && decide (0 < K)) r4) ∧ Below w.heap.size w wx)
  case first =>
    cases htk : (turn && decide (0 < K))
    · have HM : Kept (r4 = turnL (turn && decide (0 < K)) r4) := ⟨by rw [htk]; rfl⟩
      clear htk
      go_wp2
      go_meet
      exact ⟨r4, HO4.out, HM, HB4.out⟩
    · have hk0 : 0 < K := by rw [Bool.and_eq_true, decide_eq_true_eq] at htk; exact htk.2
      obtain ⟨q, hq⟩ : ∃ q, K = q + 1 := ⟨K - 1, by omega⟩
      have hq1 : (K : Int) - 1 = (q : Int) := by omega
      have hqr : q < r4.length := by rw [HRKL.out]; omega
      obtain ⟨g, hg, hbg, hgl, hcell, hfr, hst⟩ := own_at HO4.out hqr
      have hv := get_byte (m := r4) (by rw [← HRK.out]; exact fun x hx => HAR.out x (List.mem_of_mem_take hx)) hqr
      have hxor := u8_xor1 (r4.getD q 0) hv
      obtain ⟨o1, _⟩ := hst (r4.getD q 0 ^^^ 1)
      have HM : Kept (r4.set q (r4.getD q 0 ^^^ 1) = turnL (turn && decide (0 < K)) r4) := ⟨by
        rw [htk, turnL_set (fun e => by rw [e] at hqr; simp at hqr), HRKL.out, hq, Nat.add_sub_cancel]⟩
      have hBF := kept (HB4.out.setCell (p := ⟨g, q, none⟩) hbg (.int .u8 ((r4.getD q 0 ^^^ 1 : Nat) : Int)))
      subst hg
      generalize r4.getD q 0 = v at *
      generalize v ^^^ 1 = z at *
      have HO1 := kept o1
      clear hst o1 hq HO4 htk
      go_wp2
      go_meet
      exact ⟨r4.set q z, HO1.out, HM, hBF.out⟩
  obtain ⟨m, hom, hm, hbm⟩ := hcut
  have hml : m.length = r4.length := by rw [hm.out, turnL_length]
  have hmal : AllB m := by
    rw [hm.out]
    intro x hx
    by_cases hr0 : r4 = []
    · rw [hr0, turnL_nil] at hx; cases hx
    · have hal4 : AllB r4 := by rw [← HRK.out]; exact fun x hx => HAR.out x (List.mem_of_mem_take hx)
      cases ht : (turn && decide (0 < K))
      · rw [ht] at hx; exact hal4 x hx
      · rw [ht, turnL_set hr0] at hx
        rcases List.mem_or_eq_of_mem_set hx with h | h
        · exact hal4 x h
        · rw [h]
          exact Nat.xor_lt_two_pow (n := 8) (hal4 _ (by
            have : r4.length - 1 < r4.length := by have : 0 < r4.length := (by rcases r4 with _ | ⟨x, t⟩; exact absurd rfl hr0; simp); omega
            simp [List.getD, this])) (by decide)
  obtain ⟨q, hq1, hq2⟩ := torn_split (L := bodies ps) HF2.out (by rw [bodies_length]; exact hj) (by rw [← HRE.out]; exact hKle) (by rw [HE.out]; exact hEK) (t := turn && decide (0 < K)) (fun h => by
      rw [Bool.and_eq_true, decide_eq_true_eq] at h
      rw [HE.out]; exact HTK.out h.1 h.2) (fun y hy => (HSTOP.out y hy).imp id (fun h => ⟨h.1, by
      have := recB_ge y
      rw [h.2, decide_eq_true (by omega)]; rfl⟩))
  rw [← HRE.out, HRK.out, ← hm.out] at hq1
  have hcap4 : r4.length ≤ c4 ∧ c4 ≤ 9223372036854775807 := by
    obtain ⟨_, _, he, h1, h2, _⟩ := hom.form
    injection he with _ h3 he
    subst he
    unfold maxLen at h2
    rw [BB_length, hml] at h1
    exact ⟨h1, by omega⟩
  have hr4b : r4.length ≤ 10260 := by rw [HRKL.out]; omega
  have C := kept (scan_any A4 r4.length c4 m wc hml.symm (HT.out wc hbm) hmal (by omega) hcap4.2 hom.rd (by omega))
  have HQ1 := kept hq1
  have HQ2 := kept hq2
  have HBM := kept hbm
  have HML := kept hml
  clear hom hm hbm hml hmal hq1 hq2 HO4
  obtain ⟨wd, rfl⟩ : ∃ w, w = wc := ⟨_, rfl⟩
  go_wp2_with fail
  refine C.out.mono ?_
  rintro e w6 ⟨Z, cz, xs, e2, rfl, hsc, hop, hb6⟩
  obtain ⟨hbod, he2⟩ := scans_of (l := (bodies ps).take j) (q := q) (by rw [← HQ1.out, HML.out]; omega) HQ2.out (by rw [← HQ1.out]; exact hsc)
  rw [HE.out] at he2
  subst he2
  have hbj : bodies (ps.take j) = (bodies ps).take j := by unfold bodies; rw [List.map_take]
  have hxl : xs.length = (ps.take j).length := by rw [← bodies_length, hbod, ← hbj, bodies_length]
  have htl : (ps.take j).length = j := by rw [List.length_take]; omega
  have hbw6 := HBM.out.trans (hb6.mono HBM.out.size)
  have CS := kept (rsame_any Z X _ j cz c xs (ps.take j) w6 rfl htl.symm hop.rd ((HPX.out w6 hbw6).take j) (by omega) (by omega))
  rw [decide_eq_true (hbod.trans hbj.symm)] at CS
  have hjc : j ≤ c := by omega
  have HB6 := kept hbw6
  clear hsc hop hb6 hbod hbj hxl htl hbw6 C
  go_wp2_with fail
  refine CS.out.mono ?_
  rintro e w7 ⟨rfl, q2, rfl⟩
  have CW := kept (works_any (w6.drewN q2) (HT.out _ (HB6.out.trans (below_draw _ _ _))))
  go_wp2_with fail
  refine CW.out.mono ?_
  rintro e w8 ⟨rfl, hb8⟩
  go_wp2
  go_ret
  exact ⟨rfl, below_next (HB6.out.trans (below_draw _ _ _)) hb8⟩
end Go.Proofs.YtenkccfglmkdmaaDoor.Wal
