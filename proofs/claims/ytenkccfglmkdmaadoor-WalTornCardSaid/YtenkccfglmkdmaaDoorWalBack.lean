/- The law WalBack. -/
import Derived.Test.YtenkccfglmkdmaaDoorWalLaws
import Derived.Deep.CutBlock
import Derived.Deep.DeepCutAuto
namespace Go.Proofs.YtenkccfglmkdmaaDoor.Wal
open Go.RowKit Go.Proofs.YtenkccfglmkdmaaDoor.Mem Go.Proofs.YtenkccfglmkdmaaDoor.Num Go.Proofs.YtenkccfglmkdmaaDoor.Crc Go.Proofs.YtenkccfglmkdmaaDoor.Shift

theorem recsB_take {L : List (List Nat)} {j : Nat} {r : List Nat} (h : L[j]? = some r) : recsB (L.take (j + 1)) = recsB (L.take j) ++ recB r := by
  obtain ⟨hk, rfl⟩ := List.getElem?_eq_some_iff.1 h
  rw [List.take_succ_eq_append_getElem hk, recsB_snoc]
theorem recsB_take_le (L : List (List Nat)) (j : Nat) : (recsB (L.take j)).length ≤ (recsB L).length := by
  have : recsB L = recsB (L.take j) ++ recsB (L.drop j) := by unfold recsB; rw [← List.flatMap_append, List.take_append_drop]
  rw [this, List.length_append]; omega
theorem recsB_mem {y : List Nat} : ∀ {L : List (List Nat)}, y ∈ L → (recB y).length ≤ (recsB L).length
  | [], h => by cases h
  | r :: L, h => by
    have e : (recsB (r :: L)).length = (recB r).length + (recsB L).length := by simp [recsB]
    rcases List.mem_cons.1 h with rfl | h
    · omega
    · have := recsB_mem h; omega
theorem few_true {L : List (List Nat)} (h : few L 20 = true) : L.length ≤ 20 ∧ (∀ r ∈ L, r.length ≤ 500) ∧ (recsB L).length ≤ 10260 := by
  unfold few at h
  rw [Bool.and_eq_true, decide_eq_true_eq, List.all_eq_true] at h
  have h2 : ∀ r ∈ L, r.length ≤ 500 := fun r hr => by simpa using h.2 r hr
  refine ⟨h.1, h2, ?_⟩
  have h3 := recsB_length_le h2
  have h4 : L.length * (500 + 13) ≤ 20 * 513 := Nat.mul_le_mul_right 513 h.1
  omega
set_option maxRecDepth 100000 in
set_option maxHeartbeats 4000000 in
theorem back_law (X B : Option Addr) (c d : Nat) (ps : List Part) (l : List Nat) (w : World) (hT : Tab w) (hX : RdParts w w.heap.size X ps) (hps : ps.length ≤ 9223372036854775807) (hB : Ok w B l) (hc : l.length ≤ d) :
    Calls Tryd.prog 5 #[.slice X ps.length c, .slice B l.length d] w fun e w' => e = .returned (.bool true) ∧ Below w.heap.size w w' := by
  have HT := kept (fun (W : World) (h : Below w.heap.size w W) => hT.next h)
  have CF := kept (rfew_any X _ c ps 20 w rfl hX hps (by decide))
  by_cases hbad : few (bodies ps) 20 = false
  · have C := kept (works_any w hT)
    rw [hbad] at CF
    clear hbad
    go_enter Tryd.func5, Tryd.ntmps5
    go_wp2_with fail
    refine CF.out.mono ?_
    rintro e w2 ⟨rfl, rfl⟩
    go_wp2_with fail
    refine C.out.mono ?_
    rintro e w2 ⟨rfl, hb2⟩
    go_wp2
    go_ret
    exact ⟨rfl, hb2⟩
  have hfew : few (bodies ps) 20 = true := by simpa using hbad
  rw [hfew] at CF
  obtain ⟨f1, f2, f3⟩ := few_true hfew
  rw [bodies_length] at f1
  clear hbad hfew
  by_cases hl5 : 500 < l.length
  · have C := kept (works_any w hT)
    go_enter Tryd.func5, Tryd.ntmps5
    go_wp2_with fail
    refine CF.out.mono ?_
    rintro e w2 ⟨rfl, rfl⟩
    go_wp2_with fail
    refine C.out.mono ?_
    rintro e w2 ⟨rfl, hb2⟩
    go_wp2
    go_ret
    exact ⟨rfl, hb2⟩
  have hl5 : l.length ≤ 500 := by omega
  have HPX := kept (fun (W : World) (h : Below w.heap.size w W) => hX.next h)
  have HPB := kept (fun (W : World) (h : Below w.heap.size w W) => hB.1.next h)
  have HAL := kept hB.2.1
  have HAP := kept (show ∀ r ∈ bodies ps, AllB r from fun r hr => by
    unfold bodies at hr
    obtain ⟨p, hp, rfl⟩ := List.mem_map.1 hr
    exact (hX.2 p hp).2.1)
  have HF2 := kept f2
  have HF3 := kept (fun j => Nat.le_trans (recsB_take_le (bodies ps) j) f3)
  clear hX hB hT f2
  go_enter Tryd.func5, Tryd.ntmps5
  go_wp2_with fail
  refine CF.out.mono ?_
  rintro e w2 ⟨rfl, rfl⟩
  clear CF
  go_upto_block 0 with fail
  go_cut [5] (fun v wx => ∃ (D : Option Addr) (cc : Nat) (r : List Nat), v = .slice D r.length cc ∧ Kept (r = recsB (bodies ps)) ∧ r.length ≤ 10260 ∧ Own wx w.heap.size 5 (.slice D r.length cc) (BB r) ∧ Below w.heap.size w wx)
  case first =>
    go_wp2
    go_loopw [5, 6] (fun v i wr => ∃ (j : Nat) (D : Option Addr) (cc : Nat) (r : List Nat), j ≤ ps.length ∧ i = .int .i64 (j : Int) ∧ v = .slice D r.length cc ∧ Kept (r = recsB ((bodies ps).take j)) ∧ Own wr w.heap.size 5 (.slice D r.length cc) (BB r) ∧ Below w.heap.size w wr) (fun _ i _ => ps.length - (intOf i).toNat)
    case atStart => exact ⟨0, none, 0, [], Nat.zero_le _, rfl, rfl, ⟨by simp [recsB]⟩, Own.nilv _ _ _, Below.refl _ _⟩
    case round =>
      obtain ⟨j, D, cc, r, hj, rfl, rfl, hr, hown, hb⟩ := hrel
      by_cases hlt : j < ps.length
      · obtain ⟨p, hp⟩ : ∃ p, ps[j]? = some p := ⟨_, List.getElem?_eq_getElem hlt⟩
        have hpb : (bodies ps)[j]? = some p.l := by unfold bodies; rw [List.getElem?_map, hp]; rfl
        obtain ⟨b, o, rfl, hbb, c0, rp, ap, lp⟩ := (HPX.out wr hb).at_ hp
        have hp5 := HF2.out p.l (List.mem_of_getElem? hpb)
        have C := kept (put_any p.A _ p.c p.l wr rfl (HT.out wr hb) ap rp (by omega))
        have HRT := kept (recsB_take hpb)
        have hrl : r.length ≤ 10260 := by rw [hr.out]; exact HF3.out j
        have hpl := recB_le p.l
        have HO := kept hown
        have HB := kept hb
        unfold Part.val at c0
        clear hp hpb rp ap lp hown hb
        go_wp2_with fail
        refine C.out.mono ?_
        rintro e w3 ⟨A3, c3, rfl, ho3, hc3, hb3⟩
        have ho := HO.out.below hb3 (Nat.le_refl _)
        have hb4 := HB.out.trans (hb3.mono HB.out.size)
        have hz : r.length + (recB p.l).length ≤ 140737488355328 := by omega
        have hr3 := ho3.rd
        have hs4 := hb4.size
        have HB4 := kept hb4
        clear hb3 ho3 hb4
        go_wp2_with (at_builtin; refine wpl_app rfl (.tmp 28) (.tmp 33) rfl w.heap.size _ r rfl ho _ _ _ _ (recB p.l) rfl rfl hr3 hz hs4 ?_; intro A5 c5 w5 r5 hr5 hown5 hg5 hb5)
        have HR5 : Kept (r5 = recsB ((bodies ps).take (j + 1))) := ⟨by rw [hr5.out, HRT.out, ← hr.out]⟩
        have HB5 := kept (HB4.out.trans hb5)
        clear hr5 hg5 hb5 ho hr3
        go_roundw
        case rel => exact ⟨j + 1, A5, c5, r5, by omega, by go_num, rfl, HR5, hown5, HB5.out⟩
        case measure => simp [intOf]; omega
      · have HE : Kept (r = recsB (bodies ps)) := ⟨by rw [hr.out, List.take_of_length_le (by rw [bodies_length]; omega)]⟩
        have hrl : r.length ≤ 10260 := by rw [hr.out]; exact HF3.out j
        clear hr
        go_wp2
        go_meet
        exact ⟨D, cc, r, rfl, HE, hrl, hown, hb⟩
  obtain ⟨D, cc, r, rfl, hre, hrl, hown, hb⟩ := hcut
  have HLEN : Kept (r.length = (recsB (bodies ps)).length) := ⟨by rw [hre.out]⟩
  have hral : AllB r := by rw [hre.out]; exact recsB_all HAP.out
  have hcap := own_cap hown
  have hcc : cc ≤ 9223372036854775807 := by
    obtain ⟨_, _, he, _, h2, _⟩ := hown.form
    injection he with _ _ he
    subst he
    unfold maxLen at h2
    omega
  have C1 := kept (scan_any D _ cc r wc rfl (HT.out wc hb) hral hcap hcc hown.rd (by omega))
  have HO := kept hown
  have HB := kept hb
  have HRE := hre
  have HAR := kept hral
  clear hown hb hre hral
  obtain ⟨wa, rfl⟩ : ∃ w, w = wc := ⟨_, rfl⟩
  go_wp2_with fail
  refine C1.out.mono ?_
  rintro e w2 ⟨Y, cy, qs, e1, rfl, hsc, hop, hb2⟩
  obtain ⟨hbod, he1⟩ := scans_of (l := bodies ps) (q := []) (by rw [List.append_nil, ← HLEN.out]; omega) one_nil (by rw [List.append_nil, ← HRE.out]; exact hsc)
  have hqs : qs.length = ps.length := by rw [← bodies_length, hbod, bodies_length]
  rw [← HLEN.out] at he1
  subst he1
  have hbw2 := below_next HB.out hb2
  have CS := kept (rsame_any Y X _ _ cy c qs ps w2 rfl rfl hop.rd (HPX.out w2 hbw2) (by omega) hps)
  rw [decide_eq_true hbod] at CS
  have HO2 := kept (HO.out.below hb2 (Nat.le_refl _))
  have HB2 := kept hbw2
  clear hsc hop hb2 hbod hqs hbw2 C1
  go_wp2_with fail
  refine CS.out.mono ?_
  rintro e w3 ⟨rfl, q, rfl⟩
  obtain ⟨w3, hw3⟩ : ∃ w3, w2.drewN q = w3 := ⟨_, rfl⟩
  have HO3 : Kept (Own w3 w.heap.size 5 (.slice D r.length cc) (BB r)) := ⟨hw3 ▸ (show Own (w2.drewN q) w.heap.size 5 (.slice D r.length cc) (BB r) from HO2.out)⟩
  have HB3 : Kept (Below w.heap.size w w3) := ⟨hw3 ▸ HB2.out.trans (below_draw _ _ _)⟩
  rw [hw3]
  clear hw3 CS HO2 HB2
  have hown0 : Own (w3.alloc (.cells #[] 5)) w.heap.size 5 (.slice (some ⟨w3.heap.size, 0, none⟩) 0 0) (BB []) := Own.new w3 w.heap.size 5 [] HB3.out.size (by simp)
  have hbA := HB3.out.alloc HB3.out.size (.cells #[] 5)
  have hrA := (HO3.out.alloc (.cells #[] 5)).rd
  have hz : ([] : List Nat).length + r.length ≤ 140737488355328 := by simp; omega
  have HBA := kept hbA
  have hsA := hbA.size
  clear hbA
  go_upto_region 11 with fail
  go_wp2_with (first
    | (at_builtin; refine wpl_app rfl (.tmp 51) (.tmp 52) rfl w.heap.size _ [] rfl hown0 _ _ _ _ r rfl rfl hrA hz hsA ?_; intro A4 c4 w4 r4 hr4 hown4 hg4 hb4; have hb4' := HBA.out.trans hb4; have hr4l : r4.length = r.length := (by rw [hr4.out]; simp); have hz4 : r4.length + l.length ≤ 140737488355328 := (by omega); have hrB := HPB.out w4 hb4'; have hs4 := hb4'.size; have HR4 : Kept (r4 = r) := ⟨by rw [hr4.out]; simp⟩; have HB4 := kept hb4'; have HL4 := kept hr4l; clear hr4 hg4 hb4 hb4' hr4l)
    | (at_builtin; refine wpl_app rfl (.tmp 53) (.tmp 54) rfl w.heap.size _ r4 rfl hown4 _ _ _ _ l rfl rfl hrB hz4 hs4 ?_; intro A5 c5 w5 r5 hr5 hown5 hg5 hb5; have HB5 := kept (HB4.out.trans hb5); have HR5 : Kept (r5 = r ++ l) := ⟨by rw [hr5.out, HR4.out]⟩; clear hr5 hg5 hb5))
  have hr5l : r5.length = r.length + l.length := by rw [HR5.out, List.length_append]
  have HR5L := kept hr5l
  have hr5b : r5.length ≤ 10760 := by omega
  have har5 : AllB r5 := by rw [HR5.out]; exact fun x hx => (List.mem_append.1 hx).elim (HAR.out x) (HAL.out x)
  have hcap5 := own_cap hown5
  have hcc5 : c5 ≤ 9223372036854775807 := by
    obtain ⟨_, _, he, _, h2, _⟩ := hown5.form
    injection he with _ _ he
    subst he
    unfold maxLen at h2
    omega
  have C5 := kept (scan_any A5 _ c5 r5 w5 rfl (HT.out w5 HB5.out) har5 hcap5 hcc5 hown5.rd (by omega))
  clear hr5l har5 hcap5 hcc5 hown5 hown4 hrB hz4 hs4 hrA hown0 hsA hz
  refine C5.out.mono ?_
  rintro e w6 ⟨Z, cz, xs, e2, rfl, hsc2, hop2, hb6⟩
  rw [HR5.out, HRE.out] at hsc2
  obtain ⟨x', hx', hsx, hle2⟩ := scans_app (bodies ps) (by rw [List.length_append, ← HLEN.out]; omega) hsc2
  have he2 : e2 = (recsB (bodies xs)).length := hsc2.choose_spec.2.1
  have he2r : e2 ≤ r.length + l.length := by
    have := congrArg List.length hsc2.choose_spec.1
    rw [List.length_append, List.length_append, ← HLEN.out] at this
    omega
  rw [← HLEN.out] at hle2
  have hxl : ps.length ≤ xs.length := by
    have := congrArg List.length hx'
    rw [List.length_append, bodies_length, bodies_length] at this
    omega
  have htl : (xs.take ps.length).length = ps.length := by rw [List.length_take]; omega
  have hbt : bodies (xs.take ps.length) = bodies ps := by
    unfold bodies at hx' ⊢
    have e : ps.length = (ps.map Part.l).length := by simp
    rw [List.map_take, hx', e, List.take_left]
  have hx5 := recsB_ge (bodies xs)
  rw [bodies_length, ← he2] at hx5
  have hxcap := hop2.1.cap
  have hbw6 := HB5.out.trans (hb6.mono HB5.out.size)
  have CS := kept (rsame_any Z X ps.length _ cz c (xs.take ps.length) ps w6 htl.symm rfl (hop2.rd.take _) (HPX.out w6 hbw6) (by omega) hps)
  rw [decide_eq_true hbt] at CS
  have HOX := kept hop2.rd
  have HB6 := kept hbw6
  have HE2 := kept he2
  have HX5 : Kept (∀ y ∈ bodies xs, y.length ≤ 10760 ∧ AllB y) := ⟨fun y hy => by
    have h1 := recsB_mem hy
    have h2 := recB_ge y
    refine ⟨by omega, ?_⟩
    unfold bodies at hy
    obtain ⟨p, hp, rfl⟩ := List.mem_map.1 hy
    exact (hop2.2 p hp).2.1⟩
  have HTX := kept (fun j => recsB_take_le (bodies xs) j)
  clear hsc2 hop2 hb6 hbw6 hx' hsx htl hbt he2 C5 HO3
  go_upto_region 12 with fail
  go_cut [87] (fun p wx => p = .bool false ∧ ∃ q, wx = w6.drewN q)
  case first =>
    go_wp2_with fail
    refine CS.out.mono ?_
    rintro e w7 ⟨rfl, q2, rfl⟩
    go_wp2
    go_meet
    exact ⟨congrArg Value.bool (by rw [decide_eq_false (by omega), decide_eq_false (by omega), decide_eq_false (by omega)]; rfl), q2, rfl⟩
  obtain ⟨rfl, q2, rfl⟩ := hcut
  obtain ⟨w7, hw7⟩ : ∃ w7, w6.drewN q2 = w7 := ⟨_, rfl⟩
  have HOX7 : Kept (RdParts w7 w7.heap.size Z xs) := ⟨hw7 ▸ HOX.out.next (below_draw _ _ _)⟩
  have HB7 : Kept (Below w.heap.size w w7) := ⟨hw7 ▸ HB6.out.trans (below_draw _ _ _)⟩
  have he2b : e2 ≤ 10760 := by omega
  have hxsb : xs.length ≤ 10760 := by omega
  rw [hw7]
  clear hw7 CS HOX HB6 hxl hle2 he2r hx5 hxcap
  go_upto_block 2 with fail
  go_cut [11] (fun v wx => ∃ (D : Option Addr) (cc : Nat) (r : List Nat), v = .slice D r.length cc ∧ r.length = e2 ∧ Below w.heap.size w wx)
  case first =>
    go_wp2
    go_loopw [11, 12] (fun v i wr => ∃ (j : Nat) (D : Option Addr) (cc : Nat) (r : List Nat), j ≤ xs.length ∧ i = .int .i64 (j : Int) ∧ v = .slice D r.length cc ∧ Kept (r = recsB ((bodies xs).take j)) ∧ Own wr w7.heap.size 5 (.slice D r.length cc) (BB r) ∧ Below w7.heap.size w7 wr) (fun _ i _ => xs.length - (intOf i).toNat)
    case atStart => exact ⟨0, none, 0, [], Nat.zero_le _, rfl, rfl, ⟨by simp [recsB]⟩, Own.nilv _ _ _, Below.refl _ _⟩
    case round =>
      obtain ⟨j, D, cc, r, hj, rfl, rfl, hr, hown, hb7⟩ := hrel
      by_cases hlt : j < xs.length
      · obtain ⟨p, hp⟩ : ∃ p, xs[j]? = some p := ⟨_, List.getElem?_eq_getElem hlt⟩
        have hpb : (bodies xs)[j]? = some p.l := by unfold bodies; rw [List.getElem?_map, hp]; rfl
        obtain ⟨b, o, rfl, hbb, c0, rp, ap, lp⟩ := (HOX7.out.next hb7).at_ hp
        have hp5 := (HX5.out p.l (List.mem_of_getElem? hpb)).1
        have C := kept (put_any p.A _ p.c p.l wr rfl (HT.out wr (below_next HB7.out hb7)) ap rp (by omega))
        have HRT := kept (recsB_take hpb)
        have hrl : r.length ≤ 10760 := by have := HTX.out j; rw [← hr.out, ← HE2.out] at this; omega
        have hpl := recB_le p.l
        have HO := kept hown
        have HB7' := kept hb7
        unfold Part.val at c0
        clear hp hpb rp ap lp hown hb7
        go_wp2_with fail
        refine C.out.mono ?_
        rintro e w3 ⟨A3, c3, rfl, ho3, hc3, hb3⟩
        have ho := HO.out.below hb3 (Nat.le_refl _)
        have hb74 := HB7'.out.trans (hb3.mono HB7'.out.size)
        have hz : r.length + (recB p.l).length ≤ 140737488355328 := by omega
        have hr3 := ho3.rd
        have hs4 := hb74.size
        have HB74 := kept hb74
        clear hb3 ho3 hb74
        go_wp2_with (at_builtin; refine wpl_app rfl (.tmp 94) (.tmp 99) rfl w7.heap.size _ r rfl ho _ _ _ _ (recB p.l) rfl rfl hr3 hz hs4 ?_; intro A5 c5 w5 r5 hr5 hown5 hg5 hb5)
        have HR5 : Kept (r5 = recsB ((bodies xs).take (j + 1))) := ⟨by rw [hr5.out, HRT.out, ← hr.out]⟩
        have HB75 := kept (HB74.out.trans hb5)
        clear hr5 hg5 hb5 ho hr3
        go_roundw
        case rel => exact ⟨j + 1, A5, c5, r5, by omega, by go_num, rfl, HR5, hown5, HB75.out⟩
        case measure => simp [intOf]; omega
      · have HE : Kept (r.length = e2) := ⟨by rw [hr.out, List.take_of_length_le (by rw [bodies_length]; omega), HE2.out]⟩
        clear hr
        go_wp2
        go_meet
        exact ⟨D, cc, r, rfl, HE.out, below_next HB7.out hb7⟩
  obtain ⟨D', cc', r', rfl, hr'e, hbf⟩ := hcut
  have HBF := kept hbf
  have C := kept (works_any wc (HT.out wc hbf))
  subst hr'e
  clear hbf
  go_wp2_with fail
  refine C.out.mono ?_
  rintro e w9 ⟨rfl, hb9⟩
  go_wp2
  go_ret
  exact ⟨rfl, below_next HBF.out hb9⟩
end Go.Proofs.YtenkccfglmkdmaaDoor.Wal
