/- Layer 47 (twin): the law TwinGroups. (printed by tools/gentg.py) -/
import Derived.Test.YtfkfpanhbanljaaGreatDoorTwinWorks
import Derived.Test.YtfkfpanhbanljaaGreatDoorSet45
import Derived.Test.YtfkfpanhbanljaaGreatDoorHeldCall
import Derived.BigQuiet
import Derived.Deep.DeepCutAuto
namespace Go.Proofs.YtfkfpanhbanljaaGreatDoor.Twin
open Go.RowKit Go.Proofs.YtfkfpanhbanljaaGreatDoor.Mem Go.Proofs.YtfkfpanhbanljaaGreatDoor.Card Go.Proofs.YtfkfpanhbanljaaGreatDoor.Fold Go.Proofs.YtfkfpanhbanljaaGreatDoor.Laid

/-- all numbers so far are unlike -/
def Unlike (l : List CardM) (i k : Nat) : Prop := (∀ a b, a < i → b < a → cidAt l a ≠ cidAt l b) ∧ ∀ b, b < k → cidAt l i ≠ cidAt l b
theorem unlike_next {l : List CardM} {i k : Nat} (h : Unlike l i k) (hne : cidAt l i ≠ cidAt l k) : Unlike l i (k + 1) := ⟨h.1, fun b hb => by
  rcases Nat.lt_succ_iff_lt_or_eq.1 hb with h1 | rfl
  · exact h.2 b h1
  · exact hne⟩
theorem unlike_row {l : List CardM} {i : Nat} (h : Unlike l i i) : Unlike l (i + 1) 0 := ⟨fun a b ha hb => by
  rcases Nat.lt_succ_iff_lt_or_eq.1 ha with h1 | rfl
  · exact h.1 a b h1 hb
  · exact h.2 b hb, fun b hb => absurd hb (Nat.not_lt_zero _)⟩
theorem unlike_all {l : List CardM} (h : Unlike l l.length 0) : ∀ x y, x < l.length → y < l.length → cidAt l x = cidAt l y → x = y := fun x y hx hy e => by
  rcases Nat.lt_trichotomy x y with h1 | h1 | h1
  · exact absurd e.symm (h.1 y x hy h1)
  · exact h1
  · exact absurd e (h.1 x y hx h1)
/-- is the i-th like none of the first k others? -/
def aloneL (l : List CardM) (i k : Nat) : Bool := (List.range k).all fun q => !(decide (q ≠ i) && adjB l i q)
theorem alone_next (l : List CardM) (i k : Nat) : aloneL l i (k + 1) = (aloneL l i k && !(decide (k ≠ i) && adjB l i k)) := by unfold aloneL; rw [List.range_succ, List.all_append]; simp
theorem alone_iff {l : List CardM} {i : Nat} : aloneL l i l.length = true ↔ ∀ k, k < l.length → k ≠ i → adjB l i k = false := by
  unfold aloneL
  rw [List.all_eq_true]
  constructor
  · intro h k hk hne
    have := h k (List.mem_range.2 hk)
    simpa [hne] using this
  · intro h k hk
    have hk := List.mem_range.1 hk
    by_cases hne : k = i
    · simp [hne]
    · simp [hne, h k hk hne]
theorem sum_take {gs : List GrpM} {k : Nat} {g : GrpM} (hg : gs[k]? = some g) : ((gs.take (k + 1)).map fun q => q.l.length).sum = ((gs.take k).map fun q => q.l.length).sum + g.l.length := by
  obtain ⟨h1, h2⟩ := List.getElem?_eq_some_iff.1 hg
  rw [List.take_succ_eq_append_getElem h1, h2, List.map_append, List.sum_append]
  simp
theorem sum_small : ∀ {gs : List GrpM}, (∀ g ∈ gs, g.l.length ≤ 10) → (gs.map fun q => q.l.length).sum ≤ gs.length * 10
  | [], _ => by simp
  | g :: gs, h => by
    have h1 := sum_small (gs := gs) fun q hq => h q (List.mem_cons_of_mem _ hq)
    have h2 := h g (List.mem_cons_self ..)
    simp only [List.map_cons, List.sum_cons, List.length_cons]
    omega
theorem count_next (n : Nat) (p : Nat → Bool) : (List.range (n + 1)).countP p = (List.range n).countP p + if p n then 1 else 0 := by rw [List.range_succ, List.countP_append]; simp
set_option maxRecDepth 100000 in
set_option maxHeartbeats 8000000 in
theorem groups_law (X : Option Addr) (l : List CardM) (c : Nat) (w : World) (hr : RdCards w w.heap.size X l) (hc : l.length ≤ c) (hb : c ≤ 4398046511104) (ht : ∀ y ∈ l, ∀ u ∈ y.ls, ∀ q ∈ u.m, q.size ≤ 140737488355000) (hm : ML w) :
    Calls Tryz.prog 6 #[.slice X l.length c] w fun e w' => e = .returned (.bool true) ∧ Below w.heap.size w w' := by
  have CF := kept (tfew_any X l c w hr (by omega))
  by_cases hfw : fewT l
  · rw [decide_eq_true hfw] at CF
    have hn : l.length ≤ 10 := hfw.1
    have HSM := kept (small_of hfw ht)
    have HL := kept hr
    have HM := kept hm
    clear hr ht hm hfw hc hb
    go_enter Tryz.func6, Tryz.ntmps6
    go_wp2_with fail
    refine CF.out.mono ?_
    rintro e w0 ⟨rfl, rfl⟩
    clear CF
    go_wp2_with fail
    obtain ⟨w1, hw1⟩ : ∃ w1 : World, w1 = w := ⟨_, rfl⟩
    have HB1 : Kept (Below w.heap.size w w1) := ⟨by rw [hw1]; exact Below.refl _ _⟩
    rw [← hw1]
    clear hw1
    go_loopw [3] (fun iv wr => ∃ i : Nat, i ≤ l.length ∧ iv = .int .i64 (i : Int) ∧ Kept (Unlike l i 0) ∧ Kept (Below w.heap.size w wr)) (fun iv _ => l.length - (intOf iv).toNat)
    case atStart => exact ⟨0, Nat.zero_le _, rfl, ⟨⟨fun a b h => absurd h (Nat.not_lt_zero _), fun b h => absurd h (Nat.not_lt_zero _)⟩⟩, HB1⟩
    case round =>
      clear HB1
      obtain ⟨i, hi, rfl, HU, HBW⟩ := hrel
      by_cases hlt : i < l.length
      · have hin : (i : Int) < (l.length : Int) := by omega
        obtain ⟨x, hx⟩ : ∃ x, l[i]? = some x := ⟨_, List.getElem?_eq_getElem hlt⟩
        obtain ⟨b, o, rfl, hbB, u0, -, -⟩ := card_at HL.out hx
        have hcx : cidAt l i = x.cid := by unfold cidAt; rw [getD_of hx]
        have U0 := kept u0
        go_wp2_with fail
        go_loopw [4] (fun kv wr => ∃ k : Nat, k ≤ i ∧ kv = .int .i64 (k : Int) ∧ Kept (Unlike l i k) ∧ Kept (Below w.heap.size w wr)) (fun kv _ => i - (intOf kv).toNat)
        case atStart => exact ⟨0, Nat.zero_le _, rfl, HU, HBW⟩
        case round =>
          clear HU HBW
          obtain ⟨k, hk, rfl, HU, HBW⟩ := hrel
          by_cases hlk : k < i
          · have hkl : (k : Int) < (l.length : Int) := by omega
            have hki : (k : Int) < (i : Int) := by omega
            obtain ⟨y, hy⟩ : ∃ y, l[k]? = some y := ⟨_, List.getElem?_eq_getElem (show k < l.length by omega)⟩
            obtain ⟨b2, o2, e2, -, v0, -, -⟩ := card_at HL.out hy
            obtain ⟨rfl, rfl⟩ : b = b2 ∧ o = o2 := by injection e2 with h1; injection h1 with h2 h3 _; exact ⟨h2, h3⟩
            have hcy : cidAt l k = y.cid := by unfold cidAt; rw [getD_of hy]
            have HN : Kept (x.cid ≠ y.cid → Unlike l i (k + 1)) := ⟨fun h => unlike_next HU.out (by rw [hcx, hcy]; exact h)⟩
            have x0 := (HBW.out.cell (p := ⟨b, o + i * 2, none⟩) hbB).trans U0.out
            have y0 := (HBW.out.cell (p := ⟨b, o + k * 2, none⟩) hbB).trans v0
            generalize x.cid = xc at *
            generalize y.cid = yc at *
            clear hx hy e2 v0 u0 hcx hcy HU
            by_cases hxy : xc = yc
            · subst hxy
              have e3 : ((xc : Int) == (xc : Int)) = true := by simp
              clear HN U0
              go_wp2_with fail
              go_region
              all_goals
                go_wp2_with fail
                refine (tworks_any _ (HM.out.next HBW.out.drew)).mono ?_
                rintro e w8 ⟨rfl, hb8⟩
                go_wp2_with fail
                go_ret
                exact ⟨rfl, HBW.out.drew.trans (hb8.mono HBW.out.drew.size)⟩
            · have e3 : ((xc : Int) == (yc : Int)) = false := by simp; omega
              have HU := kept (HN.out hxy)
              have hne : ¬ (xc : Int) = (yc : Int) := by omega
              clear HN hxy U0
              go_wp2_with fail
              go_region
              all_goals
                go_wp2_with fail
                go_roundw
                case rel => exact ⟨k + 1, by omega, by go_num, HU, ⟨HBW.out.drew⟩⟩
                case measure => simp [intOf]; omega
          · obtain rfl : k = i := by omega
            have hge : ¬ (k : Int) < (k : Int) := by omega
            have HU2 := kept (unlike_row HU.out)
            clear HU hcx u0 U0 hx
            go_wp2_with fail
            go_roundw
            case rel => exact ⟨k + 1, by omega, by go_num, HU2, HBW⟩
            case measure => simp [intOf]; omega
      · obtain rfl : i = l.length := by omega
        have hge : ¬ (l.length : Int) < (l.length : Int) := by omega
        have IL := in_law l (unlike_all HU.out)
        have CG := kept (groups_any X c l wr (HL.out.next HBW.out) HSM.out (HM.out.next HBW.out) hn)
        clear HU
        go_wp2_with fail
        refine CG.out.mono ?_
        rintro e w5 ⟨A5, c5, gs, rfl, hg5, hcp5, hrd5, hb5⟩
        have hbd := groups_bound hg5
        rw [← hg5] at IL
        have IL := kept IL
        have HB5 := kept (HBW.out.trans (hb5.mono HBW.out.size))
        have HRD := kept hrd5
        have hgl : gs.length ≤ 10 := by have := hbd.1; omega
        have HGL : Kept (∀ g ∈ gs, g.l.length ≤ 10) := ⟨fun g hg => by have := hbd.2 g hg; omega⟩
        clear hbd hg5 hb5 hrd5 CG HBW
        go_wp2_with fail
        go_loopw [6, 7] (fun nv iv wr => ∃ i : Nat, i ≤ gs.length ∧ iv = .int .i64 (i : Int) ∧ nv = .int .i64 ((((gs.take i).map fun q => q.l.length).sum : Nat) : Int) ∧ Kept (Below w.heap.size w wr) ∧ Kept (RdG wr A5 gs)) (fun _ iv _ => gs.length - (intOf iv).toNat)
        case atStart => exact ⟨0, Nat.zero_le _, rfl, rfl, HB5, HRD⟩
        case round =>
          clear HB5 HRD
          obtain ⟨i, hi, rfl, rfl, HB5, HRD⟩ := hrel
          by_cases hlt : i < gs.length
          · have hin : (i : Int) < (gs.length : Int) := by omega
            obtain ⟨g, hg⟩ : ∃ g, gs[i]? = some g := ⟨_, List.getElem?_eq_getElem hlt⟩
            obtain ⟨b1, o1, rfl, hb1, x0⟩ := grpE_get HRD.out.1 hg
            have htwo : 2 ≤ g.l.length := IL.out.two g.l (List.mem_map.2 ⟨g, List.mem_of_getElem? hg, rfl⟩)
            have hten := HGL.out g (List.mem_of_getElem? hg)
            have hst := sum_take hg
            have hs2 := sum_small (gs := gs.take i) fun q hq => HGL.out q (List.mem_of_mem_take hq)
            have htl : (gs.take i).length ≤ i := List.length_take_le _ _
            obtain ⟨gA, gl, gc⟩ := g
            unfold GrpM.val at x0
            dsimp only at x0 htwo hten hst
            have HST := kept hst
            clear hst hg
            generalize ((gs.take i).map fun q => q.l.length).sum = sm at *
            have hsb : sm ≤ 100 := by omega
            have hlt2 : ¬ (gl.length : Int) < 2 := by omega
            have hs100 : (sm : Int) ≤ 100 := by omega
            have hg10 : (gl.length : Int) ≤ 10 := by omega
            clear htl hs2
            go_wp2_with fail
            go_roundw
            case rel => exact ⟨i + 1, by omega, by go_num, by rw [HST.out]; go_num, HB5, HRD⟩
            case measure => simp [intOf]; omega
          · obtain rfl : i = gs.length := by omega
            have hge2 : ¬ (gs.length : Int) < (gs.length : Int) := by omega
            have hsm := IL.out.sum
            rw [List.map_map] at hsm
            have hs2 := sum_small (gs := gs) HGL.out
            rw [List.take_of_length_le (Nat.le_refl gs.length)]
            have hsm : (gs.map fun q => q.l.length).sum = (List.range l.length).countP fun i => decide (0 ≤ placeI (gs.map GrpM.l) (cidAt l i)) := hsm
            have HSUM := kept hsm
            clear hsm
            have hsb : (gs.map fun q => q.l.length).sum ≤ 100 := by omega
            generalize (gs.map fun q => q.l.length).sum = sm at *
            have HILS := kept IL.out.same
            have HILA := kept IL.out.alone
            clear IL
            obtain ⟨w2, hw2⟩ : ∃ w2 : World, w2 = wr := ⟨_, rfl⟩
            rw [← hw2] at HB5 HRD ⊢
            clear hw2
            go_wp2_with fail
            go_loopw [8, 9] (fun nv iv wr => ∃ i : Nat, i ≤ l.length ∧ iv = .int .i64 (i : Int) ∧ nv = .int .i64 (((List.range i).countP fun q => decide (0 ≤ placeI (gs.map GrpM.l) (cidAt l q)) : Nat) : Int) ∧ Kept (Below w.heap.size w wr) ∧ Kept (RdG wr A5 gs)) (fun _ iv _ => l.length - (intOf iv).toNat)
            case atStart => exact ⟨0, Nat.zero_le _, rfl, rfl, HB5, HRD⟩
            case round =>
              clear HB5 HRD
              obtain ⟨i, hi, rfl, rfl, HB5, HRD⟩ := hrel
              have hcb : ((List.range i).countP fun q => decide (0 ≤ placeI (gs.map GrpM.l) (cidAt l q))) ≤ i := by
                have := List.countP_le_length (p := fun q => decide (0 ≤ placeI (gs.map GrpM.l) (cidAt l q))) (l := List.range i)
                simpa using this
              by_cases hlt : i < l.length
              · have hin : (i : Int) < (l.length : Int) := by omega
                have HCN := kept (count_next i fun q => decide (0 ≤ placeI (gs.map GrpM.l) (cidAt l q)))
                obtain ⟨x, hx⟩ : ∃ x, l[i]? = some x := ⟨_, List.getElem?_eq_getElem hlt⟩
                obtain ⟨b, o, rfl, hbB, u0, u1, hxo⟩ := card_at HL.out hx
                have hcx : cidAt l i = x.cid := by unfold cidAt; rw [getD_of hx]
                have hx0 := (HB5.out.cell (p := ⟨b, o + i * 2, none⟩) hbB).trans u0
                have CP := kept (place_any A5 c5 gs x.cid wr HRD.out (by omega) fun g hg => by have := HGL.out g hg; omega)
                obtain ⟨hp1, hp2⟩ := place_ge (gs.map GrpM.l) x.cid
                rw [List.length_map] at hp2
                have ha0 := HILA.out i hlt
                have hsa0 := fun k (hk : k < l.length) => HILS.out i k hlt hk
                rw [hcx] at ha0 hsa0 HCN
                have HA := kept ha0
                have HSA := kept hsa0
                clear ha0 hsa0
                have U01 := kept (And.intro u0 u1)
                have HXO := kept (And.intro hxo (HSM.out x (List.mem_of_getElem? hx)))
                have HX := kept hx
                obtain ⟨pI, hpI⟩ : ∃ pI, placeI (gs.map GrpM.l) x.cid = pI := ⟨_, rfl⟩
                rw [hpI] at CP HA hp1 hp2 HSA HCN
                clear hcx u0 u1 hxo hx hpI
                generalize ((List.range i).countP fun q => decide (0 ≤ placeI (gs.map GrpM.l) (cidAt l q))) = cn at *
                obtain ⟨xcid, xX, xls, xc⟩ := x
                dsimp only at hx0 CP U01 HXO HX
                go_wp2_with fail
                refine CP.out.mono ?_
                rintro e w3 ⟨rfl, rfl⟩
                clear CP hx0
                go_wp2_with fail
                go_loopw [11, 12] (fun av kv wr => ∃ k : Nat, k ≤ l.length ∧ kv = .int .i64 (k : Int) ∧ av = .bool (aloneL l i k) ∧ Kept (Below w.heap.size w wr) ∧ Kept (RdG wr A5 gs)) (fun _ kv _ => l.length - (intOf kv).toNat)
                case atStart => exact ⟨0, Nat.zero_le _, rfl, rfl, HB5, HRD⟩
                case round =>
                  clear HB5 HRD
                  obtain ⟨k, hk, rfl, rfl, HB5, HRD⟩ := hrel
                  by_cases hlk : k < l.length
                  · have hkn : (k : Int) < (l.length : Int) := by omega
                    have HAN := kept (alone_next l i k)
                    obtain ⟨y, hy⟩ : ∃ y, l[k]? = some y := ⟨_, List.getElem?_eq_getElem hlk⟩
                    obtain ⟨b2, o2, e2, -, v0, v1, hyo⟩ := card_at HL.out hy
                    obtain ⟨rfl, rfl⟩ : b = b2 ∧ o = o2 := by injection e2 with h1; injection h1 with h2 h3 _; exact ⟨h2, h3⟩
                    have hcy : cidAt l k = y.cid := by unfold cidAt; rw [getD_of hy]
                    have HCL := kept (And.intro U01.out (And.intro v0 v1))
                    have hps := alike_symm same_symm y ⟨xcid, xX, xls, xc⟩
                    have HADJ : Kept (adjB l i k = (alikeB ⟨xcid, xX, xls, xc⟩ y || alikeB y ⟨xcid, xX, xls, xc⟩)) := ⟨by unfold adjB; rw [getD_of HX.out, getD_of hy]⟩
                    have HSK : Kept (adjB l i k = true → placeI (gs.map GrpM.l) y.cid = pI) := ⟨fun h => by rw [← hcy]; exact HSA.out k hlk h⟩
                    have hbw := HB5.out
                    have HS : Kept (∀ W, Below wr.heap.size wr W → W.cell? ⟨b, o + i * 2, none⟩ = some (.int .u64 (xcid : Int)) ∧ W.cell? ⟨b, o + i * 2 + 1, none⟩ = some (.slice xX xls.length xc) ∧ W.cell? ⟨b, o + k * 2, none⟩ = some (.int .u64 (y.cid : Int)) ∧ W.cell? ⟨b, o + k * 2 + 1, none⟩ = some (.slice y.X y.ls.length y.c)) := ⟨fun W h => by
                      have hb := hbw.trans (h.mono hbw.size)
                      exact ⟨(hb.cell (p := ⟨b, o + i * 2, none⟩) hbB).trans HCL.out.1.1, (hb.cell (p := ⟨b, o + i * 2 + 1, none⟩) hbB).trans HCL.out.1.2, (hb.cell (p := ⟨b, o + k * 2, none⟩) hbB).trans HCL.out.2.1, (hb.cell (p := ⟨b, o + k * 2 + 1, none⟩) hbB).trans HCL.out.2.2⟩⟩
                    have CXY := kept (fun (W : World) (h : Below wr.heap.size wr W) => alike_any ⟨xcid, xX, xls, xc⟩ y W (HXO.out.1.next (hbw.trans (h.mono hbw.size))) (hyo.next (hbw.trans (h.mono hbw.size))) (HM.out.next (hbw.trans (h.mono hbw.size))) HXO.out.2 (HSM.out y (List.mem_of_getElem? hy)))
                    have CYX := kept (fun (W : World) (h : Below wr.heap.size wr W) => alike_any y ⟨xcid, xX, xls, xc⟩ W (hyo.next (hbw.trans (h.mono hbw.size))) (HXO.out.1.next (hbw.trans (h.mono hbw.size))) (HM.out.next (hbw.trans (h.mono hbw.size))) (HSM.out y (List.mem_of_getElem? hy)) HXO.out.2)
                    rw [hps] at CYX HADJ
                    generalize alikeB ⟨xcid, xX, xls, xc⟩ y = p at *
                    have HADJ : Kept (adjB l i k = p) := ⟨by rw [HADJ.out]; cases p <;> rfl⟩
                    rw [HADJ.out] at HAN HSK
                    obtain ⟨ycid, yX, yls, yc⟩ := y
                    unfold CardM.val at CXY CYX
                    dsimp only at HS CXY CYX HSK
                    clear hps HADJ e2 v0 v1 hyo hcy hy HCL hbw
                    go_upto_region 28 with fail
                    go_cut [13] (fun a wr' => a = .bool (decide (k ≠ i) && p) ∧ Kept (Below wr.heap.size wr wr'))
                    case first =>
                      have hd0 : Below wr.heap.size wr wr := Below.refl _ _
                      clear HAN HSK HB5 HRD
                      by_cases hki : k = i
                      · subst hki
                        have hne : ((k : Int) != (k : Int)) = false := by simp
                        have HDK : Kept ((decide (k ≠ k) && p) = false) := ⟨by simp⟩
                        refine wp_region_noPanic ?_
                        refine wp_region_held_drew (S := fun W => W.cell? ⟨b, o + k * 2, none⟩ = some (.int .u64 (xcid : Int)) ∧ W.cell? ⟨b, o + k * 2 + 1, none⟩ = some (.slice xX xls.length xc) ∧ W.cell? ⟨b, o + k * 2, none⟩ = some (.int .u64 (ycid : Int)) ∧ W.cell? ⟨b, o + k * 2 + 1, none⟩ = some (.slice yX yls.length yc)) (by kernel_rfl) (HS.out _ (by (repeat (first | with_reducible assumption | with_reducible refine below_new ?_ _ | with_reducible refine Below.drew ?_ | with_reducible exact Below.refl _ _)))) (fun hS0 => ?_)
                        refine wpAnyH_take (i := 0) (v := ?_) rfl (by kernel_rfl) (by kernel_rfl) (by kernel_rfl) (fun _ _ _ h => h) (Or.inl ⟨by rfl, ?_⟩) hS0 ?_
                        case refine_2 => (intro W hSW; go_simp; try with_reducible rfl)
                        try simp only [Act.put, List.setIfInBounds_toArray, List.set_cons_zero, List.set_cons_succ, List.getElem_toArray, List.getElem_cons_zero, List.getElem_cons_succ]
                        refine wpAnyH_take (i := 1) (v := ?_) rfl (by kernel_rfl) (by kernel_rfl) (by kernel_rfl) (fun _ _ _ h => h) (Or.inl ⟨by rfl, ?_⟩) hS0 ?_
                        case refine_2 => (intro W hSW; go_simp; try with_reducible rfl)
                        try simp only [Act.put, List.setIfInBounds_toArray, List.set_cons_zero, List.set_cons_succ, List.getElem_toArray, List.getElem_cons_zero, List.getElem_cons_succ]
                        refine wpAnyH_take (i := 2) (v := ?_) rfl (by kernel_rfl) (by kernel_rfl) (by kernel_rfl) (fun _ _ _ h => h) (Or.inl ⟨by rfl, ?_⟩) hS0 ?_
                        case refine_2 => (intro W hSW; go_simp; try with_reducible rfl)
                        try simp only [Act.put, List.setIfInBounds_toArray, List.set_cons_zero, List.set_cons_succ, List.getElem_toArray, List.getElem_cons_zero, List.getElem_cons_succ]
                        refine wpAnyH_take (i := 3) (v := ?_) rfl (by kernel_rfl) (by kernel_rfl) (by kernel_rfl) (fun _ _ _ h => h) (Or.inl ⟨by rfl, ?_⟩) hS0 ?_
                        case refine_2 => (intro W hSW; go_simp; try with_reducible rfl)
                        try simp only [Act.put, List.setIfInBounds_toArray, List.set_cons_zero, List.set_cons_succ, List.getElem_toArray, List.getElem_cons_zero, List.getElem_cons_succ]
                        refine wpAnyH_take (i := 4) (v := undef) rfl (by kernel_rfl) (by kernel_rfl) (by kernel_rfl) (fun _ _ _ h => h) (Or.inr ⟨by rfl, rfl⟩) hS0 ?_
                        try simp only [Act.put, List.setIfInBounds_toArray, List.set_cons_zero, List.set_cons_succ, List.getElem_toArray, List.getElem_cons_zero, List.getElem_cons_succ]
                        refine wpAnyH_take (i := 5) (v := undef) rfl (by kernel_rfl) (by kernel_rfl) (by kernel_rfl) (fun _ _ _ h => h) (Or.inr ⟨by rfl, rfl⟩) hS0 ?_
                        try simp only [Act.put, List.setIfInBounds_toArray, List.set_cons_zero, List.set_cons_succ, List.getElem_toArray, List.getElem_cons_zero, List.getElem_cons_succ]
                        refine wpAnyH_take (i := 6) (v := undef) rfl (by kernel_rfl) (by kernel_rfl) (by kernel_rfl) (fun _ _ _ h => h) (Or.inr ⟨by rfl, rfl⟩) hS0 ?_
                        try simp only [Act.put, List.setIfInBounds_toArray, List.set_cons_zero, List.set_cons_succ, List.getElem_toArray, List.getElem_cons_zero, List.getElem_cons_succ]
                        refine wpAnyH_take (i := 7) (v := undef) rfl (by kernel_rfl) (by kernel_rfl) (by kernel_rfl) (fun _ _ _ h => h) (Or.inr ⟨by rfl, rfl⟩) hS0 ?_
                        try simp only [Act.put, List.setIfInBounds_toArray, List.set_cons_zero, List.set_cons_succ, List.getElem_toArray, List.getElem_cons_zero, List.getElem_cons_succ]
                        refine wpAnyH_take (i := 8) (v := undef) rfl (by kernel_rfl) (by kernel_rfl) (by kernel_rfl) (fun _ _ _ h => h) (Or.inr ⟨by rfl, rfl⟩) hS0 ?_
                        try simp only [Act.put, List.setIfInBounds_toArray, List.set_cons_zero, List.set_cons_succ, List.getElem_toArray, List.getElem_cons_zero, List.getElem_cons_succ]
                        refine wpAnyH_take (i := 9) (v := undef) rfl (by kernel_rfl) (by kernel_rfl) (by kernel_rfl) (fun _ _ _ h => h) (Or.inr ⟨by rfl, rfl⟩) hS0 ?_
                        try simp only [Act.put, List.setIfInBounds_toArray, List.set_cons_zero, List.set_cons_succ, List.getElem_toArray, List.getElem_cons_zero, List.getElem_cons_succ]
                        refine wpAnyH_take (i := 10) (v := undef) rfl (by kernel_rfl) (by kernel_rfl) (by kernel_rfl) (fun _ _ _ h => h) (Or.inr ⟨by rfl, rfl⟩) hS0 ?_
                        try simp only [Act.put, List.setIfInBounds_toArray, List.set_cons_zero, List.set_cons_succ, List.getElem_toArray, List.getElem_cons_zero, List.getElem_cons_succ]
                        refine wpAnyH_take (i := 11) (v := undef) rfl (by kernel_rfl) (by kernel_rfl) (by kernel_rfl) (fun _ _ _ h => h) (Or.inr ⟨by rfl, rfl⟩) hS0 ?_
                        try simp only [Act.put, List.setIfInBounds_toArray, List.set_cons_zero, List.set_cons_succ, List.getElem_toArray, List.getElem_cons_zero, List.getElem_cons_succ]
                        refine wpAnyH_take (i := 12) (v := undef) rfl (by kernel_rfl) (by kernel_rfl) (by kernel_rfl) (fun _ _ _ h => h) (Or.inr ⟨by rfl, rfl⟩) hS0 ?_
                        try simp only [Act.put, List.setIfInBounds_toArray, List.set_cons_zero, List.set_cons_succ, List.getElem_toArray, List.getElem_cons_zero, List.getElem_cons_succ]
                        refine wpAnyH_take (i := 13) (v := undef) rfl (by kernel_rfl) (by kernel_rfl) (by kernel_rfl) (fun _ _ _ h => h) (Or.inr ⟨by rfl, rfl⟩) hS0 ?_
                        try simp only [Act.put, List.setIfInBounds_toArray, List.set_cons_zero, List.set_cons_succ, List.getElem_toArray, List.getElem_cons_zero, List.getElem_cons_succ]
                        refine wpAnyH_take (i := 14) (v := undef) rfl (by kernel_rfl) (by kernel_rfl) (by kernel_rfl) (fun _ _ _ h => h) (Or.inr ⟨by rfl, rfl⟩) hS0 ?_
                        try simp only [Act.put, List.setIfInBounds_toArray, List.set_cons_zero, List.set_cons_succ, List.getElem_toArray, List.getElem_cons_zero, List.getElem_cons_succ]
                        refine wpAnyH_take (i := 15) (v := undef) rfl (by kernel_rfl) (by kernel_rfl) (by kernel_rfl) (fun _ _ _ h => h) (Or.inr ⟨by rfl, rfl⟩) hS0 ?_
                        try simp only [Act.put, List.setIfInBounds_toArray, List.set_cons_zero, List.set_cons_succ, List.getElem_toArray, List.getElem_cons_zero, List.getElem_cons_succ]
                        refine wpAnyH_take (i := 16) (v := undef) rfl (by kernel_rfl) (by kernel_rfl) (by kernel_rfl) (fun _ _ _ h => h) (Or.inr ⟨by rfl, rfl⟩) hS0 ?_
                        try simp only [Act.put, List.setIfInBounds_toArray, List.set_cons_zero, List.set_cons_succ, List.getElem_toArray, List.getElem_cons_zero, List.getElem_cons_succ]
                        refine wpAnyH_take (i := 17) (v := undef) rfl (by kernel_rfl) (by kernel_rfl) (by kernel_rfl) (fun _ _ _ h => h) (Or.inr ⟨by rfl, rfl⟩) hS0 ?_
                        try simp only [Act.put, List.setIfInBounds_toArray, List.set_cons_zero, List.set_cons_succ, List.getElem_toArray, List.getElem_cons_zero, List.getElem_cons_succ]
                        refine wpAnyH_take (i := 18) (v := undef) rfl (by kernel_rfl) (by kernel_rfl) (by kernel_rfl) (fun _ _ _ h => h) (Or.inr ⟨by rfl, rfl⟩) hS0 ?_
                        try simp only [Act.put, List.setIfInBounds_toArray, List.set_cons_zero, List.set_cons_succ, List.getElem_toArray, List.getElem_cons_zero, List.getElem_cons_succ]
                        refine wpAnyH_take (i := 19) (v := undef) rfl (by kernel_rfl) (by kernel_rfl) (by kernel_rfl) (fun _ _ _ h => h) (Or.inr ⟨by rfl, rfl⟩) hS0 ?_
                        try simp only [Act.put, List.setIfInBounds_toArray, List.set_cons_zero, List.set_cons_succ, List.getElem_toArray, List.getElem_cons_zero, List.getElem_cons_succ]
                        refine wpAnyH_take (i := 20) (v := undef) rfl (by kernel_rfl) (by kernel_rfl) (by kernel_rfl) (fun _ _ _ h => h) (Or.inr ⟨by rfl, rfl⟩) hS0 ?_
                        try simp only [Act.put, List.setIfInBounds_toArray, List.set_cons_zero, List.set_cons_succ, List.getElem_toArray, List.getElem_cons_zero, List.getElem_cons_succ]
                        refine wpAnyH_take (i := 21) (v := undef) rfl (by kernel_rfl) (by kernel_rfl) (by kernel_rfl) (fun _ _ _ h => h) (Or.inr ⟨by rfl, rfl⟩) hS0 ?_
                        try simp only [Act.put, List.setIfInBounds_toArray, List.set_cons_zero, List.set_cons_succ, List.getElem_toArray, List.getElem_cons_zero, List.getElem_cons_succ]
                        refine wpAnyH_take (i := 22) (v := undef) rfl (by kernel_rfl) (by kernel_rfl) (by kernel_rfl) (fun _ _ _ h => h) (Or.inr ⟨by rfl, rfl⟩) hS0 ?_
                        try simp only [Act.put, List.setIfInBounds_toArray, List.set_cons_zero, List.set_cons_succ, List.getElem_toArray, List.getElem_cons_zero, List.getElem_cons_succ]
                        refine wpAnyH_take (i := 23) (v := undef) rfl (by kernel_rfl) (by kernel_rfl) (by kernel_rfl) (fun _ _ _ h => h) (Or.inr ⟨by rfl, rfl⟩) hS0 ?_
                        try simp only [Act.put, List.setIfInBounds_toArray, List.set_cons_zero, List.set_cons_succ, List.getElem_toArray, List.getElem_cons_zero, List.getElem_cons_succ]
                        refine wpAnyH_take (i := 24) (v := ?_) rfl (by kernel_rfl) (by kernel_rfl) (by kernel_rfl) (fun _ _ _ h => h) (Or.inl ⟨by rfl, ?_⟩) hS0 ?_
                        case refine_2 => (intro W hSW; go_simp; try with_reducible rfl)
                        try simp only [Act.put, List.setIfInBounds_toArray, List.set_cons_zero, List.set_cons_succ, List.getElem_toArray, List.getElem_cons_zero, List.getElem_cons_succ]
                        refine wpAnyH_take (i := 25) (v := ?_) rfl (by kernel_rfl) (by kernel_rfl) (by kernel_rfl) (fun _ _ _ h => h) (Or.inl ⟨by rfl, ?_⟩) hS0 ?_
                        case refine_2 => (intro W hSW; go_simp; try with_reducible rfl)
                        try simp only [Act.put, List.setIfInBounds_toArray, List.set_cons_zero, List.set_cons_succ, List.getElem_toArray, List.getElem_cons_zero, List.getElem_cons_succ]
                        refine wpAnyH_done (by kernel_rfl) (NoPanic.normal ?_) _
                        go_wp2_with fail
                        go_meet
                        exact ⟨by first | rfl | (rw [HDK.out]) | simp, ⟨(by (repeat (first | with_reducible assumption | with_reducible refine below_new ?_ _ | with_reducible refine Below.drew ?_ | with_reducible exact Below.refl _ _)))⟩⟩
                      · have hne : ((k : Int) != (i : Int)) = true := by simp; omega
                        have hni : ¬ (k : Int) = (i : Int) := by omega
                        have HDK : Kept ((decide (k ≠ i) && p) = p) := ⟨by rw [decide_eq_true hki, Bool.true_and]⟩
                        clear hki
                        cases p with
                        | true =>
                          refine wp_region_noPanic ?_
                          refine wp_region_held_drew (S := fun W => W.cell? ⟨b, o + i * 2, none⟩ = some (.int .u64 (xcid : Int)) ∧ W.cell? ⟨b, o + i * 2 + 1, none⟩ = some (.slice xX xls.length xc) ∧ W.cell? ⟨b, o + k * 2, none⟩ = some (.int .u64 (ycid : Int)) ∧ W.cell? ⟨b, o + k * 2 + 1, none⟩ = some (.slice yX yls.length yc)) (by kernel_rfl) (HS.out _ (by (repeat (first | with_reducible assumption | with_reducible refine below_new ?_ _ | with_reducible refine Below.drew ?_ | with_reducible exact Below.refl _ _)))) (fun hS0 => ?_)
                          refine wpAnyH_take (i := 0) (v := ?_) rfl (by kernel_rfl) (by kernel_rfl) (by kernel_rfl) (fun _ _ _ h => h) (Or.inl ⟨by rfl, ?_⟩) hS0 ?_
                          case refine_2 => (intro W hSW; go_simp; try with_reducible rfl)
                          try simp only [Act.put, List.setIfInBounds_toArray, List.set_cons_zero, List.set_cons_succ, List.getElem_toArray, List.getElem_cons_zero, List.getElem_cons_succ]
                          refine wpAnyH_take (i := 1) (v := ?_) rfl (by kernel_rfl) (by kernel_rfl) (by kernel_rfl) (fun _ _ _ h => h) (Or.inl ⟨by rfl, ?_⟩) hS0 ?_
                          case refine_2 => (intro W hSW; go_simp; try with_reducible rfl)
                          try simp only [Act.put, List.setIfInBounds_toArray, List.set_cons_zero, List.set_cons_succ, List.getElem_toArray, List.getElem_cons_zero, List.getElem_cons_succ]
                          refine wpAnyH_take (i := 2) (v := ?_) rfl (by kernel_rfl) (by kernel_rfl) (by kernel_rfl) (fun _ _ _ h => h) (Or.inl ⟨by rfl, ?_⟩) hS0 ?_
                          case refine_2 => (intro W hSW; go_simp; try with_reducible rfl)
                          try simp only [Act.put, List.setIfInBounds_toArray, List.set_cons_zero, List.set_cons_succ, List.getElem_toArray, List.getElem_cons_zero, List.getElem_cons_succ]
                          refine wpAnyH_take (i := 3) (v := ?_) rfl (by kernel_rfl) (by kernel_rfl) (by kernel_rfl) (fun _ _ _ h => h) (Or.inl ⟨by rfl, ?_⟩) hS0 ?_
                          case refine_2 => (intro W hSW; go_simp; try with_reducible rfl)
                          try simp only [Act.put, List.setIfInBounds_toArray, List.set_cons_zero, List.set_cons_succ, List.getElem_toArray, List.getElem_cons_zero, List.getElem_cons_succ]
                          refine wpAnyH_take (i := 4) (v := ?_) rfl (by kernel_rfl) (by kernel_rfl) (by kernel_rfl) (fun _ _ _ h => h) (Or.inl ⟨by rfl, ?_⟩) hS0 ?_
                          case refine_2 => (intro W hSW; go_simp; try with_reducible rfl)
                          try simp only [Act.put, List.setIfInBounds_toArray, List.set_cons_zero, List.set_cons_succ, List.getElem_toArray, List.getElem_cons_zero, List.getElem_cons_succ]
                          refine wpAnyH_take (i := 5) (v := ?_) rfl (by kernel_rfl) (by kernel_rfl) (by kernel_rfl) (fun _ _ _ h => h) (Or.inl ⟨by rfl, ?_⟩) hS0 ?_
                          case refine_2 => (intro W hSW; go_simp; try with_reducible rfl)
                          try simp only [Act.put, List.setIfInBounds_toArray, List.set_cons_zero, List.set_cons_succ, List.getElem_toArray, List.getElem_cons_zero, List.getElem_cons_succ]
                          refine wpAnyH_take (i := 6) (v := ?_) rfl (by kernel_rfl) (by kernel_rfl) (by kernel_rfl) (fun _ _ _ h => h) (Or.inl ⟨by rfl, ?_⟩) hS0 ?_
                          case refine_2 => (intro W hSW; go_simp; try with_reducible rfl)
                          try simp only [Act.put, List.setIfInBounds_toArray, List.set_cons_zero, List.set_cons_succ, List.getElem_toArray, List.getElem_cons_zero, List.getElem_cons_succ]
                          refine wpAnyH_take (i := 7) (v := ?_) rfl (by kernel_rfl) (by kernel_rfl) (by kernel_rfl) (fun _ _ _ h => h) (Or.inl ⟨by rfl, ?_⟩) hS0 ?_
                          case refine_2 => (intro W hSW; obtain ⟨z0, z1, z2, z3⟩ := hSW; go_simp; try with_reducible rfl)
                          try simp only [Act.put, List.setIfInBounds_toArray, List.set_cons_zero, List.set_cons_succ, List.getElem_toArray, List.getElem_cons_zero, List.getElem_cons_succ]
                          refine wpAnyH_take (i := 8) (v := ?_) rfl (by kernel_rfl) (by kernel_rfl) (by kernel_rfl) (fun _ _ _ h => h) (Or.inl ⟨by rfl, ?_⟩) hS0 ?_
                          case refine_2 => (intro W hSW; go_simp; try with_reducible rfl)
                          try simp only [Act.put, List.setIfInBounds_toArray, List.set_cons_zero, List.set_cons_succ, List.getElem_toArray, List.getElem_cons_zero, List.getElem_cons_succ]
                          refine wpAnyH_take (i := 9) (v := ?_) rfl (by kernel_rfl) (by kernel_rfl) (by kernel_rfl) (fun _ _ _ h => h) (Or.inl ⟨by rfl, ?_⟩) hS0 ?_
                          case refine_2 => (intro W hSW; go_simp; try with_reducible rfl)
                          try simp only [Act.put, List.setIfInBounds_toArray, List.set_cons_zero, List.set_cons_succ, List.getElem_toArray, List.getElem_cons_zero, List.getElem_cons_succ]
                          refine wpAnyH_take (i := 10) (v := ?_) rfl (by kernel_rfl) (by kernel_rfl) (by kernel_rfl) (fun _ _ _ h => h) (Or.inl ⟨by rfl, ?_⟩) hS0 ?_
                          case refine_2 => (intro W hSW; go_simp; try with_reducible rfl)
                          try simp only [Act.put, List.setIfInBounds_toArray, List.set_cons_zero, List.set_cons_succ, List.getElem_toArray, List.getElem_cons_zero, List.getElem_cons_succ]
                          refine wpAnyH_take (i := 11) (v := ?_) rfl (by kernel_rfl) (by kernel_rfl) (by kernel_rfl) (fun _ _ _ h => h) (Or.inl ⟨by rfl, ?_⟩) hS0 ?_
                          case refine_2 => (intro W hSW; obtain ⟨z0, z1, z2, z3⟩ := hSW; go_simp; try with_reducible rfl)
                          try simp only [Act.put, List.setIfInBounds_toArray, List.set_cons_zero, List.set_cons_succ, List.getElem_toArray, List.getElem_cons_zero, List.getElem_cons_succ]
                          refine wpAnyH_ready (rs := [12]) (by kernel_rfl) (by simp) ?_
                          refine AllReadyH.cons rfl (fun K' hK => ?_) AllReadyH.nil
                          go_simp
                          go_at_call 20
                          refine (CXY.out _ (by (repeat (first | with_reducible assumption | with_reducible refine below_new ?_ _ | with_reducible refine Below.drew ?_ | with_reducible exact Below.refl _ _)))).mono ?_
                          rintro e x1 ⟨rfl, hx1⟩
                          have hk1 : Below wr.heap.size wr x1 := below_next (by (repeat (first | with_reducible assumption | with_reducible refine below_new ?_ _ | with_reducible refine Below.drew ?_ | with_reducible exact Below.refl _ _))) hx1
                          try simp only [Act.put, List.setIfInBounds_toArray, List.set_cons_zero, List.set_cons_succ, List.getElem_toArray, List.getElem_cons_zero, List.getElem_cons_succ]
                          refine hK.out _ _ (HS.out x1 hk1) (fun hS0 => ?_)
                          refine wpAnyH_take (i := 13) (v := ?_) rfl (by kernel_rfl) (by kernel_rfl) (by kernel_rfl) (fun _ _ _ h => h) (Or.inl ⟨by rfl, ?_⟩) hS0 ?_
                          case refine_2 => (intro W hSW; go_simp; try with_reducible rfl)
                          try simp only [Act.put, List.setIfInBounds_toArray, List.set_cons_zero, List.set_cons_succ, List.getElem_toArray, List.getElem_cons_zero, List.getElem_cons_succ]
                          refine wpAnyH_take (i := 14) (v := undef) rfl (by kernel_rfl) (by kernel_rfl) (by kernel_rfl) (fun _ _ _ h => h) (Or.inr ⟨by rfl, rfl⟩) hS0 ?_
                          try simp only [Act.put, List.setIfInBounds_toArray, List.set_cons_zero, List.set_cons_succ, List.getElem_toArray, List.getElem_cons_zero, List.getElem_cons_succ]
                          refine wpAnyH_take (i := 15) (v := undef) rfl (by kernel_rfl) (by kernel_rfl) (by kernel_rfl) (fun _ _ _ h => h) (Or.inr ⟨by rfl, rfl⟩) hS0 ?_
                          try simp only [Act.put, List.setIfInBounds_toArray, List.set_cons_zero, List.set_cons_succ, List.getElem_toArray, List.getElem_cons_zero, List.getElem_cons_succ]
                          refine wpAnyH_take (i := 16) (v := undef) rfl (by kernel_rfl) (by kernel_rfl) (by kernel_rfl) (fun _ _ _ h => h) (Or.inr ⟨by rfl, rfl⟩) hS0 ?_
                          try simp only [Act.put, List.setIfInBounds_toArray, List.set_cons_zero, List.set_cons_succ, List.getElem_toArray, List.getElem_cons_zero, List.getElem_cons_succ]
                          refine wpAnyH_take (i := 17) (v := undef) rfl (by kernel_rfl) (by kernel_rfl) (by kernel_rfl) (fun _ _ _ h => h) (Or.inr ⟨by rfl, rfl⟩) hS0 ?_
                          try simp only [Act.put, List.setIfInBounds_toArray, List.set_cons_zero, List.set_cons_succ, List.getElem_toArray, List.getElem_cons_zero, List.getElem_cons_succ]
                          refine wpAnyH_take (i := 18) (v := undef) rfl (by kernel_rfl) (by kernel_rfl) (by kernel_rfl) (fun _ _ _ h => h) (Or.inr ⟨by rfl, rfl⟩) hS0 ?_
                          try simp only [Act.put, List.setIfInBounds_toArray, List.set_cons_zero, List.set_cons_succ, List.getElem_toArray, List.getElem_cons_zero, List.getElem_cons_succ]
                          refine wpAnyH_take (i := 19) (v := undef) rfl (by kernel_rfl) (by kernel_rfl) (by kernel_rfl) (fun _ _ _ h => h) (Or.inr ⟨by rfl, rfl⟩) hS0 ?_
                          try simp only [Act.put, List.setIfInBounds_toArray, List.set_cons_zero, List.set_cons_succ, List.getElem_toArray, List.getElem_cons_zero, List.getElem_cons_succ]
                          refine wpAnyH_take (i := 20) (v := undef) rfl (by kernel_rfl) (by kernel_rfl) (by kernel_rfl) (fun _ _ _ h => h) (Or.inr ⟨by rfl, rfl⟩) hS0 ?_
                          try simp only [Act.put, List.setIfInBounds_toArray, List.set_cons_zero, List.set_cons_succ, List.getElem_toArray, List.getElem_cons_zero, List.getElem_cons_succ]
                          refine wpAnyH_take (i := 21) (v := undef) rfl (by kernel_rfl) (by kernel_rfl) (by kernel_rfl) (fun _ _ _ h => h) (Or.inr ⟨by rfl, rfl⟩) hS0 ?_
                          try simp only [Act.put, List.setIfInBounds_toArray, List.set_cons_zero, List.set_cons_succ, List.getElem_toArray, List.getElem_cons_zero, List.getElem_cons_succ]
                          refine wpAnyH_take (i := 22) (v := undef) rfl (by kernel_rfl) (by kernel_rfl) (by kernel_rfl) (fun _ _ _ h => h) (Or.inr ⟨by rfl, rfl⟩) hS0 ?_
                          try simp only [Act.put, List.setIfInBounds_toArray, List.set_cons_zero, List.set_cons_succ, List.getElem_toArray, List.getElem_cons_zero, List.getElem_cons_succ]
                          refine wpAnyH_take (i := 23) (v := ?_) rfl (by kernel_rfl) (by kernel_rfl) (by kernel_rfl) (fun _ _ _ h => h) (Or.inl ⟨by rfl, ?_⟩) hS0 ?_
                          case refine_2 => (intro W hSW; go_simp; try with_reducible rfl)
                          try simp only [Act.put, List.setIfInBounds_toArray, List.set_cons_zero, List.set_cons_succ, List.getElem_toArray, List.getElem_cons_zero, List.getElem_cons_succ]
                          refine wpAnyH_take (i := 24) (v := ?_) rfl (by kernel_rfl) (by kernel_rfl) (by kernel_rfl) (fun _ _ _ h => h) (Or.inl ⟨by rfl, ?_⟩) hS0 ?_
                          case refine_2 => (intro W hSW; go_simp; try with_reducible rfl)
                          try simp only [Act.put, List.setIfInBounds_toArray, List.set_cons_zero, List.set_cons_succ, List.getElem_toArray, List.getElem_cons_zero, List.getElem_cons_succ]
                          refine wpAnyH_take (i := 25) (v := ?_) rfl (by kernel_rfl) (by kernel_rfl) (by kernel_rfl) (fun _ _ _ h => h) (Or.inl ⟨by rfl, ?_⟩) hS0 ?_
                          case refine_2 => (intro W hSW; go_simp; try with_reducible rfl)
                          try simp only [Act.put, List.setIfInBounds_toArray, List.set_cons_zero, List.set_cons_succ, List.getElem_toArray, List.getElem_cons_zero, List.getElem_cons_succ]
                          refine wpAnyH_done (by kernel_rfl) (NoPanic.normal ?_) _
                          go_wp2_with fail
                          go_meet
                          exact ⟨by first | rfl | (rw [HDK.out]) | simp, ⟨(by (repeat (first | with_reducible assumption | with_reducible refine below_new ?_ _ | with_reducible refine Below.drew ?_ | with_reducible exact Below.refl _ _)))⟩⟩
                        | false =>
                          refine wp_region_noPanic ?_
                          refine wp_region_held_drew (S := fun W => W.cell? ⟨b, o + i * 2, none⟩ = some (.int .u64 (xcid : Int)) ∧ W.cell? ⟨b, o + i * 2 + 1, none⟩ = some (.slice xX xls.length xc) ∧ W.cell? ⟨b, o + k * 2, none⟩ = some (.int .u64 (ycid : Int)) ∧ W.cell? ⟨b, o + k * 2 + 1, none⟩ = some (.slice yX yls.length yc)) (by kernel_rfl) (HS.out _ (by (repeat (first | with_reducible assumption | with_reducible refine below_new ?_ _ | with_reducible refine Below.drew ?_ | with_reducible exact Below.refl _ _)))) (fun hS0 => ?_)
                          refine wpAnyH_take (i := 0) (v := ?_) rfl (by kernel_rfl) (by kernel_rfl) (by kernel_rfl) (fun _ _ _ h => h) (Or.inl ⟨by rfl, ?_⟩) hS0 ?_
                          case refine_2 => (intro W hSW; go_simp; try with_reducible rfl)
                          try simp only [Act.put, List.setIfInBounds_toArray, List.set_cons_zero, List.set_cons_succ, List.getElem_toArray, List.getElem_cons_zero, List.getElem_cons_succ]
                          refine wpAnyH_take (i := 1) (v := ?_) rfl (by kernel_rfl) (by kernel_rfl) (by kernel_rfl) (fun _ _ _ h => h) (Or.inl ⟨by rfl, ?_⟩) hS0 ?_
                          case refine_2 => (intro W hSW; go_simp; try with_reducible rfl)
                          try simp only [Act.put, List.setIfInBounds_toArray, List.set_cons_zero, List.set_cons_succ, List.getElem_toArray, List.getElem_cons_zero, List.getElem_cons_succ]
                          refine wpAnyH_take (i := 2) (v := ?_) rfl (by kernel_rfl) (by kernel_rfl) (by kernel_rfl) (fun _ _ _ h => h) (Or.inl ⟨by rfl, ?_⟩) hS0 ?_
                          case refine_2 => (intro W hSW; go_simp; try with_reducible rfl)
                          try simp only [Act.put, List.setIfInBounds_toArray, List.set_cons_zero, List.set_cons_succ, List.getElem_toArray, List.getElem_cons_zero, List.getElem_cons_succ]
                          refine wpAnyH_take (i := 3) (v := ?_) rfl (by kernel_rfl) (by kernel_rfl) (by kernel_rfl) (fun _ _ _ h => h) (Or.inl ⟨by rfl, ?_⟩) hS0 ?_
                          case refine_2 => (intro W hSW; go_simp; try with_reducible rfl)
                          try simp only [Act.put, List.setIfInBounds_toArray, List.set_cons_zero, List.set_cons_succ, List.getElem_toArray, List.getElem_cons_zero, List.getElem_cons_succ]
                          refine wpAnyH_take (i := 4) (v := ?_) rfl (by kernel_rfl) (by kernel_rfl) (by kernel_rfl) (fun _ _ _ h => h) (Or.inl ⟨by rfl, ?_⟩) hS0 ?_
                          case refine_2 => (intro W hSW; go_simp; try with_reducible rfl)
                          try simp only [Act.put, List.setIfInBounds_toArray, List.set_cons_zero, List.set_cons_succ, List.getElem_toArray, List.getElem_cons_zero, List.getElem_cons_succ]
                          refine wpAnyH_take (i := 5) (v := ?_) rfl (by kernel_rfl) (by kernel_rfl) (by kernel_rfl) (fun _ _ _ h => h) (Or.inl ⟨by rfl, ?_⟩) hS0 ?_
                          case refine_2 => (intro W hSW; go_simp; try with_reducible rfl)
                          try simp only [Act.put, List.setIfInBounds_toArray, List.set_cons_zero, List.set_cons_succ, List.getElem_toArray, List.getElem_cons_zero, List.getElem_cons_succ]
                          refine wpAnyH_take (i := 6) (v := ?_) rfl (by kernel_rfl) (by kernel_rfl) (by kernel_rfl) (fun _ _ _ h => h) (Or.inl ⟨by rfl, ?_⟩) hS0 ?_
                          case refine_2 => (intro W hSW; go_simp; try with_reducible rfl)
                          try simp only [Act.put, List.setIfInBounds_toArray, List.set_cons_zero, List.set_cons_succ, List.getElem_toArray, List.getElem_cons_zero, List.getElem_cons_succ]
                          refine wpAnyH_take (i := 7) (v := ?_) rfl (by kernel_rfl) (by kernel_rfl) (by kernel_rfl) (fun _ _ _ h => h) (Or.inl ⟨by rfl, ?_⟩) hS0 ?_
                          case refine_2 => (intro W hSW; obtain ⟨z0, z1, z2, z3⟩ := hSW; go_simp; try with_reducible rfl)
                          try simp only [Act.put, List.setIfInBounds_toArray, List.set_cons_zero, List.set_cons_succ, List.getElem_toArray, List.getElem_cons_zero, List.getElem_cons_succ]
                          refine wpAnyH_take (i := 8) (v := ?_) rfl (by kernel_rfl) (by kernel_rfl) (by kernel_rfl) (fun _ _ _ h => h) (Or.inl ⟨by rfl, ?_⟩) hS0 ?_
                          case refine_2 => (intro W hSW; go_simp; try with_reducible rfl)
                          try simp only [Act.put, List.setIfInBounds_toArray, List.set_cons_zero, List.set_cons_succ, List.getElem_toArray, List.getElem_cons_zero, List.getElem_cons_succ]
                          refine wpAnyH_take (i := 9) (v := ?_) rfl (by kernel_rfl) (by kernel_rfl) (by kernel_rfl) (fun _ _ _ h => h) (Or.inl ⟨by rfl, ?_⟩) hS0 ?_
                          case refine_2 => (intro W hSW; go_simp; try with_reducible rfl)
                          try simp only [Act.put, List.setIfInBounds_toArray, List.set_cons_zero, List.set_cons_succ, List.getElem_toArray, List.getElem_cons_zero, List.getElem_cons_succ]
                          refine wpAnyH_take (i := 10) (v := ?_) rfl (by kernel_rfl) (by kernel_rfl) (by kernel_rfl) (fun _ _ _ h => h) (Or.inl ⟨by rfl, ?_⟩) hS0 ?_
                          case refine_2 => (intro W hSW; go_simp; try with_reducible rfl)
                          try simp only [Act.put, List.setIfInBounds_toArray, List.set_cons_zero, List.set_cons_succ, List.getElem_toArray, List.getElem_cons_zero, List.getElem_cons_succ]
                          refine wpAnyH_take (i := 11) (v := ?_) rfl (by kernel_rfl) (by kernel_rfl) (by kernel_rfl) (fun _ _ _ h => h) (Or.inl ⟨by rfl, ?_⟩) hS0 ?_
                          case refine_2 => (intro W hSW; obtain ⟨z0, z1, z2, z3⟩ := hSW; go_simp; try with_reducible rfl)
                          try simp only [Act.put, List.setIfInBounds_toArray, List.set_cons_zero, List.set_cons_succ, List.getElem_toArray, List.getElem_cons_zero, List.getElem_cons_succ]
                          refine wpAnyH_ready (rs := [12]) (by kernel_rfl) (by simp) ?_
                          refine AllReadyH.cons rfl (fun K' hK => ?_) AllReadyH.nil
                          go_simp
                          go_at_call 20
                          refine (CXY.out _ (by (repeat (first | with_reducible assumption | with_reducible refine below_new ?_ _ | with_reducible refine Below.drew ?_ | with_reducible exact Below.refl _ _)))).mono ?_
                          rintro e x1 ⟨rfl, hx1⟩
                          have hk1 : Below wr.heap.size wr x1 := below_next (by (repeat (first | with_reducible assumption | with_reducible refine below_new ?_ _ | with_reducible refine Below.drew ?_ | with_reducible exact Below.refl _ _))) hx1
                          try simp only [Act.put, List.setIfInBounds_toArray, List.set_cons_zero, List.set_cons_succ, List.getElem_toArray, List.getElem_cons_zero, List.getElem_cons_succ]
                          refine hK.out _ _ (HS.out x1 hk1) (fun hS0 => ?_)
                          refine wpAnyH_take (i := 13) (v := ?_) rfl (by kernel_rfl) (by kernel_rfl) (by kernel_rfl) (fun _ _ _ h => h) (Or.inl ⟨by rfl, ?_⟩) hS0 ?_
                          case refine_2 => (intro W hSW; go_simp; try with_reducible rfl)
                          try simp only [Act.put, List.setIfInBounds_toArray, List.set_cons_zero, List.set_cons_succ, List.getElem_toArray, List.getElem_cons_zero, List.getElem_cons_succ]
                          refine wpAnyH_take (i := 14) (v := ?_) rfl (by kernel_rfl) (by kernel_rfl) (by kernel_rfl) (fun _ _ _ h => h) (Or.inl ⟨by rfl, ?_⟩) hS0 ?_
                          case refine_2 => (intro W hSW; go_simp; try with_reducible rfl)
                          try simp only [Act.put, List.setIfInBounds_toArray, List.set_cons_zero, List.set_cons_succ, List.getElem_toArray, List.getElem_cons_zero, List.getElem_cons_succ]
                          refine wpAnyH_take (i := 15) (v := ?_) rfl (by kernel_rfl) (by kernel_rfl) (by kernel_rfl) (fun _ _ _ h => h) (Or.inl ⟨by rfl, ?_⟩) hS0 ?_
                          case refine_2 => (intro W hSW; go_simp; try with_reducible rfl)
                          try simp only [Act.put, List.setIfInBounds_toArray, List.set_cons_zero, List.set_cons_succ, List.getElem_toArray, List.getElem_cons_zero, List.getElem_cons_succ]
                          refine wpAnyH_take (i := 16) (v := ?_) rfl (by kernel_rfl) (by kernel_rfl) (by kernel_rfl) (fun _ _ _ h => h) (Or.inl ⟨by rfl, ?_⟩) hS0 ?_
                          case refine_2 => (intro W hSW; go_simp; try with_reducible rfl)
                          try simp only [Act.put, List.setIfInBounds_toArray, List.set_cons_zero, List.set_cons_succ, List.getElem_toArray, List.getElem_cons_zero, List.getElem_cons_succ]
                          refine wpAnyH_take (i := 17) (v := ?_) rfl (by kernel_rfl) (by kernel_rfl) (by kernel_rfl) (fun _ _ _ h => h) (Or.inl ⟨by rfl, ?_⟩) hS0 ?_
                          case refine_2 => (intro W hSW; obtain ⟨z0, z1, z2, z3⟩ := hSW; go_simp; try with_reducible rfl)
                          try simp only [Act.put, List.setIfInBounds_toArray, List.set_cons_zero, List.set_cons_succ, List.getElem_toArray, List.getElem_cons_zero, List.getElem_cons_succ]
                          refine wpAnyH_take (i := 18) (v := ?_) rfl (by kernel_rfl) (by kernel_rfl) (by kernel_rfl) (fun _ _ _ h => h) (Or.inl ⟨by rfl, ?_⟩) hS0 ?_
                          case refine_2 => (intro W hSW; go_simp; try with_reducible rfl)
                          try simp only [Act.put, List.setIfInBounds_toArray, List.set_cons_zero, List.set_cons_succ, List.getElem_toArray, List.getElem_cons_zero, List.getElem_cons_succ]
                          refine wpAnyH_take (i := 19) (v := ?_) rfl (by kernel_rfl) (by kernel_rfl) (by kernel_rfl) (fun _ _ _ h => h) (Or.inl ⟨by rfl, ?_⟩) hS0 ?_
                          case refine_2 => (intro W hSW; go_simp; try with_reducible rfl)
                          try simp only [Act.put, List.setIfInBounds_toArray, List.set_cons_zero, List.set_cons_succ, List.getElem_toArray, List.getElem_cons_zero, List.getElem_cons_succ]
                          refine wpAnyH_take (i := 20) (v := ?_) rfl (by kernel_rfl) (by kernel_rfl) (by kernel_rfl) (fun _ _ _ h => h) (Or.inl ⟨by rfl, ?_⟩) hS0 ?_
                          case refine_2 => (intro W hSW; go_simp; try with_reducible rfl)
                          try simp only [Act.put, List.setIfInBounds_toArray, List.set_cons_zero, List.set_cons_succ, List.getElem_toArray, List.getElem_cons_zero, List.getElem_cons_succ]
                          refine wpAnyH_take (i := 21) (v := ?_) rfl (by kernel_rfl) (by kernel_rfl) (by kernel_rfl) (fun _ _ _ h => h) (Or.inl ⟨by rfl, ?_⟩) hS0 ?_
                          case refine_2 => (intro W hSW; obtain ⟨z0, z1, z2, z3⟩ := hSW; go_simp; try with_reducible rfl)
                          try simp only [Act.put, List.setIfInBounds_toArray, List.set_cons_zero, List.set_cons_succ, List.getElem_toArray, List.getElem_cons_zero, List.getElem_cons_succ]
                          refine wpAnyH_ready (rs := [22]) (by kernel_rfl) (by simp) ?_
                          refine AllReadyH.cons rfl (fun K' hK => ?_) AllReadyH.nil
                          go_simp
                          go_at_call 20
                          refine (CYX.out _ (by (repeat (first | with_reducible assumption | with_reducible refine below_new ?_ _ | with_reducible refine Below.drew ?_ | with_reducible exact Below.refl _ _)))).mono ?_
                          rintro e x2 ⟨rfl, hx2⟩
                          have hk2 : Below wr.heap.size wr x2 := below_next (by (repeat (first | with_reducible assumption | with_reducible refine below_new ?_ _ | with_reducible refine Below.drew ?_ | with_reducible exact Below.refl _ _))) hx2
                          try simp only [Act.put, List.setIfInBounds_toArray, List.set_cons_zero, List.set_cons_succ, List.getElem_toArray, List.getElem_cons_zero, List.getElem_cons_succ]
                          refine hK.out _ _ (HS.out x2 hk2) (fun hS0 => ?_)
                          refine wpAnyH_take (i := 23) (v := ?_) rfl (by kernel_rfl) (by kernel_rfl) (by kernel_rfl) (fun _ _ _ h => h) (Or.inl ⟨by rfl, ?_⟩) hS0 ?_
                          case refine_2 => (intro W hSW; go_simp; try with_reducible rfl)
                          try simp only [Act.put, List.setIfInBounds_toArray, List.set_cons_zero, List.set_cons_succ, List.getElem_toArray, List.getElem_cons_zero, List.getElem_cons_succ]
                          refine wpAnyH_take (i := 24) (v := ?_) rfl (by kernel_rfl) (by kernel_rfl) (by kernel_rfl) (fun _ _ _ h => h) (Or.inl ⟨by rfl, ?_⟩) hS0 ?_
                          case refine_2 => (intro W hSW; go_simp; try with_reducible rfl)
                          try simp only [Act.put, List.setIfInBounds_toArray, List.set_cons_zero, List.set_cons_succ, List.getElem_toArray, List.getElem_cons_zero, List.getElem_cons_succ]
                          refine wpAnyH_take (i := 25) (v := ?_) rfl (by kernel_rfl) (by kernel_rfl) (by kernel_rfl) (fun _ _ _ h => h) (Or.inl ⟨by rfl, ?_⟩) hS0 ?_
                          case refine_2 => (intro W hSW; go_simp; try with_reducible rfl)
                          try simp only [Act.put, List.setIfInBounds_toArray, List.set_cons_zero, List.set_cons_succ, List.getElem_toArray, List.getElem_cons_zero, List.getElem_cons_succ]
                          refine wpAnyH_done (by kernel_rfl) (NoPanic.normal ?_) _
                          go_wp2_with fail
                          go_meet
                          exact ⟨by first | rfl | (rw [HDK.out]) | simp, ⟨(by (repeat (first | with_reducible assumption | with_reducible refine below_new ?_ _ | with_reducible refine Below.drew ?_ | with_reducible exact Below.refl _ _)))⟩⟩
                    case rest =>
                      obtain ⟨rfl, hcut⟩ := hcut
                      have HBC := kept (HB5.out.trans (hcut.out.mono HB5.out.size))
                      have HRC := kept (HRD.out.next hcut.out)
                      obtain ⟨z0, z1, z2, z3⟩ := HS.out wc hcut.out
                      obtain ⟨w4, hw4⟩ : ∃ w4 : World, w4 = wc := ⟨_, rfl⟩
                      rw [← hw4] at HBC HRC z0 z1 z2 z3 ⊢
                      clear hw4 hcut HS CXY CYX HB5 HRD
                      have CP := kept (place_any A5 c5 gs ycid w4 HRC.out (by omega) fun g hg => by have := HGL.out g hg; omega)
                      cases hlike : decide (k ≠ i) && p with
                      | true =>
                        have hp : p = true := by
                          cases p with
                          | true => rfl
                          | false => rw [Bool.and_false] at hlike; cases hlike
                        have hpe := HSK.out hp
                        rw [hpe] at CP
                        have HAF : Kept (aloneL l i (k + 1) = false) := ⟨by rw [HAN.out, hlike]; simp⟩
                        have hee : (pI != pI) = false := by simp
                        clear HAN hlike HSK hp hpe
                        cases aloneL l i k
                        all_goals
                          go_wp2_with fail
                          refine CP.out.mono ?_
                          rintro e w9 ⟨rfl, rfl⟩
                          go_wp2_with fail
                          go_roundw
                          case rel => exact ⟨k + 1, by omega, by go_num, by rw [HAF.out], HBC, HRC⟩
                          case measure => simp [intOf]; omega
                      | false =>
                        have HAF : Kept (aloneL l i (k + 1) = aloneL l i k) := ⟨by rw [HAN.out, hlike]; simp⟩
                        clear HAN hlike HSK CP
                        generalize hal : aloneL l i k = al at *
                        clear hal
                        cases al
                        all_goals
                          go_wp2_with fail
                          go_roundw
                          case rel => exact ⟨k + 1, by omega, by go_num, by rw [HAF.out], HBC, HRC⟩
                          case measure => simp [intOf]; omega
                  · obtain rfl : k = l.length := by omega
                    have hge3 : ¬ (l.length : Int) < (l.length : Int) := by omega
                    have hal : aloneL l i l.length = decide (pI < 0) := by
                      rw [Bool.eq_iff_iff, decide_eq_true_eq, alone_iff]; exact HA.out.symm
                    rw [hal]
                    by_cases hneg : pI < 0
                    · have hd1 : decide (pI < 0) = true := decide_eq_true hneg
                      have hd2 : ¬ 0 ≤ pI := by omega
                      have hcn : Kept (((List.range (i + 1)).countP fun q => decide (0 ≤ placeI (gs.map GrpM.l) (cidAt l q))) = cn) := ⟨by rw [HCN.out, decide_eq_false hd2]; rfl⟩
                      rw [hd1]
                      clear hal
                      go_wp2_with fail
                      go_roundw
                      case rel => exact ⟨i + 1, by omega, by go_num, by rw [hcn.out], HB5, HRD⟩
                      case measure => simp [intOf]; omega
                    · have hd1 : decide (pI < 0) = false := decide_eq_false hneg
                      have hd2 : 0 ≤ pI := by omega
                      have hcn : Kept (((List.range (i + 1)).countP fun q => decide (0 ≤ placeI (gs.map GrpM.l) (cidAt l q))) = cn + 1) := ⟨by rw [HCN.out, decide_eq_true hd2]; rfl⟩
                      rw [hd1]
                      clear hal
                      go_wp2_with fail
                      go_roundw
                      case rel => exact ⟨i + 1, by omega, by go_num, by rw [hcn.out]; go_num, HB5, HRD⟩
                      case measure => simp [intOf]; omega
              · obtain rfl : i = l.length := by omega
                have hge3 : ¬ (l.length : Int) < (l.length : Int) := by omega
                have hs3 := HSUM.out
                have he : ((List.range l.length).countP fun q => decide (0 ≤ placeI (gs.map GrpM.l) (cidAt l q))) = sm := hs3.symm
                rw [he]
                clear hs3 he HSUM
                have heq : ((sm : Int) == (sm : Int)) = true := by simp
                go_wp2_with fail
                refine (tworks_any _ (HM.out.next HB5.out)).mono ?_
                rintro e w8 ⟨rfl, hb8⟩
                go_wp2_with fail
                go_ret
                exact ⟨rfl, HB5.out.trans (hb8.mono HB5.out.size)⟩
  · rw [decide_eq_false hfw] at CF
    clear hr ht hfw
    go_enter Tryz.func6, Tryz.ntmps6
    go_wp2_with fail
    refine CF.out.mono ?_
    rintro e w0 ⟨rfl, rfl⟩
    go_wp2_with fail
    refine (tworks_any _ hm).mono ?_
    rintro e w8 ⟨rfl, hb8⟩
    go_wp2_with fail
    go_ret
    exact ⟨rfl, hb8⟩
end Go.Proofs.YtfkfpanhbanljaaGreatDoor.Twin
