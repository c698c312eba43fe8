/- Layer 50 (change): the reference's Diff. (printed by tools/genrd.py) -/
import Derived.Test.YtnmcclkpgbdenaaChgDiff
import Derived.Test.YtnmcclkpgbdenaaChgRLines
namespace Go.Proofs.Ytnmcclkpgbdenaa.Chg
open Go.RowKit Go.Proofs.Ytnmcclkpgbdenaa.Mem Go.Proofs.Ytnmcclkpgbdenaa.Card

/-- what the reference has told so far -/
def RDf (w W : World) (A : Option Addr) (c : Nat) (cs : List ChM) : Prop :=
  Below w.heap.size w W ∧ chE.Own W w.heap.size 79 (.slice A cs.length c) cs ∧ ∀ x ∈ cs, x.Ok w w.heap.size
section
variable {w W W' : World} {A A2 : Option Addr} {c c2 : Nat} {cs r2 news : List ChM}
theorem RDf.next (h : RDf w W A c cs) (hb : Below W.heap.size W W') : RDf w W' A c cs := ⟨h.1.trans (hb.mono h.1.size), h.2.1.below hb (Nat.le_refl _), h.2.2⟩
theorem RDf.drew (h : RDf w W A c cs) : RDf w W.drew A c cs := ⟨h.1.drew, h.2.1, h.2.2⟩
theorem RDf.drewN (h : RDf w W A c cs) (q : Nat) : RDf w (W.drewN q) A c cs := ⟨below_drewN h.1 q, h.2.1, h.2.2⟩
theorem RDf.app (h : RDf w W A c cs) (hn : ∀ x ∈ news, x.Ok w w.heap.size) (hr : r2 = cs ++ news) (ho : chE.Own W' w.heap.size 79 (.slice A2 r2.length c2) r2)
    (hu : ∀ S : Nat → Prop, (∀ k, (Value.slice A cs.length c).ownBlock = some k → S k) → Upd S W W') : RDf w W' A2 c2 r2 := by
  have hu' := hu (fun k => (Value.slice A cs.length c).ownBlock = some k) fun _ h => h
  have hlt : ∀ k, (Value.slice A cs.length c).ownBlock = some k → w.heap.size ≤ k := fun k hk => (OwnK.under h.2.1 k hk).1
  refine ⟨h.1.trans (hu'.below h.1.size fun i _ e => by have := hlt i e; omega), ho, fun x hx => ?_⟩
  rw [hr] at hx
  rcases List.mem_append.1 hx with hx | hx
  · exact h.2.2 x hx
  · exact hn x hx
end
theorem drop_at {α : Type} {l : List α} {i : Nat} {x : α} (h : l[i]? = some x) : l.drop i = x :: l.drop (i + 1) := by
  obtain ⟨h1, h2⟩ := List.getElem?_eq_some_iff.1 h
  rw [List.drop_eq_getElem_cons h1, h2]
set_option maxRecDepth 100000 in
set_option maxHeartbeats 4000000 in
theorem rdiff_any (X Y : Option Addr) (al bl : List CardM) (ca cb : Nat) (w : World) (ha : RdCards w w.heap.size X al) (hb : RdCards w w.heap.size Y bl) (hla : al.length ≤ 25) (hlb : bl.length ≤ 25)
    (hsa : ∀ y ∈ al, ∀ z ∈ y.ls, z.t.size ≤ 9223372036854775807 ∧ ∀ q ∈ z.m, q.size ≤ 9223372036854775807) (hsb : ∀ y ∈ bl, ∀ z ∈ y.ls, z.t.size ≤ 9223372036854775807 ∧ ∀ q ∈ z.m, q.size ≤ 9223372036854775807) :
    Calls Try.prog 14 #[.slice X al.length ca, .slice Y bl.length cb] w (GivesR w w (if goodL al && goodL bl then diffM al bl else [])) := by
  have HGA := kept (rgoodl_any X al ca w ha (by omega) hsa)
  have HGB := kept (fun (W : World) (hB : Below w.heap.size w W) => rgoodl_any Y bl cb W (hb.next hB) (by omega) hsb)
  have HB := kept hb
  have HA := kept ha
  have HLD : Kept ((diffM al bl).length ≤ 500) := ⟨by have := diff_len _ al bl (Nat.le_refl _); omega⟩
  clear ha hb hsa hsb
  generalize hga : goodL al = ga at *
  generalize hgb : goodL bl = gb at *
  clear hga hgb
  cases ga with
  | false =>
    rw [show (if (false && gb) = true then diffM al bl else []) = [] from rfl]
    go_enter Try.func14, Try.ntmps14
    go_wp2_with fail
    refine HGA.out.mono ?_
    rintro e w1 ⟨rfl, hb1⟩
    go_wp2_with fail
    go_ret
    exact ⟨none, 0, [], rfl, rfl, Elem.Own.nilv _ _ _ _, (fun x hx => by cases hx), hb1⟩
  | true =>
    cases gb with
    | false =>
      rw [show (if (true && false) = true then diffM al bl else []) = [] from rfl]
      go_enter Try.func14, Try.ntmps14
      go_wp2_with fail
      refine HGA.out.mono ?_
      rintro e w1 ⟨rfl, hb1⟩
      go_wp2_with fail
      refine (HGB.out _ hb1).mono ?_
      rintro e w2 ⟨rfl, hb2⟩
      go_wp2_with fail
      go_ret
      exact ⟨none, 0, [], rfl, rfl, Elem.Own.nilv _ _ _ _, (fun x hx => by cases hx), hb1.trans (hb2.mono hb1.size)⟩
    | true =>
      rw [show (if (true && true) = true then diffM al bl else []) = diffM al bl from rfl]
      go_enter Try.func14, Try.ntmps14
      go_wp2_with fail
      refine HGA.out.mono ?_
      rintro e w1 ⟨rfl, hb1⟩
      go_wp2_with fail
      refine (HGB.out _ hb1).mono ?_
      rintro e w2 ⟨rfl, hb2⟩
      have HB0 := kept (hb1.trans (hb2.mono hb1.size))
      obtain ⟨D, hD⟩ : ∃ D, diffM al bl = D := ⟨_, rfl⟩
      have HD := kept hD
      have HDF := kept hD
      rw [hD] at HLD
      clear hb1 hb2 HGA HGB hD
      go_wp2_with fail
      go_loopw [5, 6, 7] (fun s5 s6 s7 wr => ∃ (i k c : Nat) (A : Option Addr) (cs : List ChM), i ≤ al.length ∧ k ≤ bl.length ∧ s5 = .slice A cs.length c ∧ s6 = .int .i64 (i : Int) ∧ s7 = .int .i64 (k : Int) ∧ Kept (cs.map ChM.p ++ diffM (al.drop i) (bl.drop k) = D ∧ RDf w wr A c cs)) (fun _ i k _ => (al.length - (intOf i).toNat) + (bl.length - (intOf k).toNat))
      case atStart => exact ⟨0, 0, 0, none, [], Nat.zero_le _, Nat.zero_le _, rfl, rfl, rfl, ⟨by rw [List.drop_zero, List.drop_zero]; exact HD.out, HB0.out, Elem.Own.nilv _ _ _ _, fun x hx => by cases hx⟩⟩
      case round =>
        obtain ⟨i, k, c, A, cs, hi, hk, rfl, rfl, rfl, hin⟩ := hrel
        clear HD HB0
        have HI := kept hin.out.2
        have HDI := kept hin.out.1
        have hcl : cs.length ≤ 500 := by
          have h1 := congrArg List.length HDI.out
          rw [List.length_append, List.length_map] at h1
          have h2 := HLD.out
          omega
        clear hin
        by_cases hil : i < al.length
        · obtain ⟨x, hx⟩ : ∃ x, al[i]? = some x := ⟨_, List.getElem?_eq_getElem hil⟩
          obtain ⟨b1, o1, rfl, hb1, x0, x1, hxo⟩ := RdCards.at_ HA.out hx
          have z0 := (HI.out.1.cell (p := ⟨b1, o1 + i * 2, none⟩) hb1).trans x0
          have z1 := (HI.out.1.cell (p := ⟨b1, o1 + i * 2 + 1, none⟩) hb1).trans x1
          have hxc := hxo.1
          have hdx := drop_at hx
          obtain ⟨xcid, xX, xls, xc⟩ := x
          dsimp only at z0 z1 hxc
          clear x0 x1 hx
          have hi1 : decide ((i : Int) < (al.length : Int)) = true := decide_eq_true (by omega)
          have hi3 : decide ((al.length : Int) ≤ (i : Int)) = false := decide_eq_false (by omega)
          have hi7 : decide (i < al.length) = true := decide_eq_true (by omega)
          have hi8 : decide (al.length ≤ i) = false := decide_eq_false (by omega)
          have hi4 : (i : Int) < (al.length : Int) := by omega
          have hi5 : (0 : Int) ≤ (i : Int) := by omega
          by_cases hkl : k < bl.length
          · obtain ⟨y, hy⟩ : ∃ y, bl[k]? = some y := ⟨_, List.getElem?_eq_getElem hkl⟩
            obtain ⟨b2, o2, rfl, hb2, y0, y1, hyo⟩ := RdCards.at_ HB.out hy
            have u0 := (HI.out.1.cell (p := ⟨b2, o2 + k * 2, none⟩) hb2).trans y0
            have u1 := (HI.out.1.cell (p := ⟨b2, o2 + k * 2 + 1, none⟩) hb2).trans y1
            have hdy := drop_at hy
            obtain ⟨ycid, yX, yls, yc⟩ := y
            dsimp only at u0 u1
            clear y0 y1 hy
            have hk1 : decide ((k : Int) < (bl.length : Int)) = true := decide_eq_true (by omega)
            have hk3 : decide ((bl.length : Int) ≤ (k : Int)) = false := decide_eq_false (by omega)
            have hk7 : decide (k < bl.length) = true := decide_eq_true (by omega)
            have hk8 : decide (bl.length ≤ k) = false := decide_eq_false (by omega)
            have hk4 : (k : Int) < (bl.length : Int) := by omega
            have hk5 : (0 : Int) ≤ (k : Int) := by omega
            rcases Nat.lt_trichotomy xcid ycid with hcmp | hcmp | hcmp
            · have hd : decide ((xcid : Int) < (ycid : Int)) = true := decide_eq_true (by omega)
              have HDD : Kept (cs.map ChM.p ++ goneP ⟨xcid, xX, xls, xc⟩ :: diffM (al.drop (i + 1)) (bl.drop k) = D) := ⟨by
                rw [← HDI.out, hdx, hdy, diffM_lt _ _ hcmp, ← hdy]⟩
              clear HDI hdx hdy
              have hz0q : Kept (∀ q, (wr.drewN q).cell? ⟨b1, o1 + i * 2, none⟩ = some (.int .u64 (xcid : Int))) := ⟨fun _ => z0⟩
              have hz1q : Kept (∀ q, (wr.drewN q).cell? ⟨b1, o1 + i * 2 + 1, none⟩ = some (.slice xX xls.length xc)) := ⟨fun _ => z1⟩
              have hu0q : Kept (∀ q, (wr.drewN q).cell? ⟨b2, o2 + k * 2, none⟩ = some (.int .u64 (ycid : Int))) := ⟨fun _ => u0⟩
              have hu1q : Kept (∀ q, (wr.drewN q).cell? ⟨b2, o2 + k * 2 + 1, none⟩ = some (.slice yX yls.length yc)) := ⟨fun _ => u1⟩
              go_wp2_with fail
              go_quiet (fail)
              clear z0 z1 u0 u1
              have HI2 := kept (HI.out.drewN nq)
              clear HI
              have HI := HI2
              clear HI2
              have z0 := hz0q.out nq
              have z1 := hz1q.out nq
              have u0 := hu0q.out nq
              have u1 := hu1q.out nq
              clear hz0q hz1q hu0q hu1q
              generalize wr.drewN nq = W2 at *
              have hbB : Below W2.heap.size W2 (W2.alloc (.cells #[.int .u8 2, .int .u64 (xcid : Int), .slice none 0 0, .int .u8 0, .string ⟨#[]⟩, .slice none 0 0] 79)) := (Below.refl _ _).alloc (Nat.le_refl _) _
              have HB4 := kept (HI.out.next hbB)
              have hrn : chE.Rd (W2.alloc (.cells #[.int .u8 2, .int .u64 (xcid : Int), .slice none 0 0, .int .u8 0, .string ⟨#[]⟩, .slice none 0 0] 79)) (W2.heap.size + 1) (some ⟨W2.heap.size, 0, none⟩) [⟨2, ⟨xcid, none, [], 0⟩, ⟨0, ⟨#[]⟩, none, [], 0⟩⟩] := Rd.newAt W2 [.int .u8 2, .int .u64 (xcid : Int), .slice none 0 0, .int .u8 0, .string ⟨#[]⟩, .slice none 0 0] 79 (by first | rfl | simp) (Nat.le_refl _)
              have hz : (cs.length + [(⟨2, ⟨xcid, none, [], 0⟩, ⟨0, ⟨#[]⟩, none, [], 0⟩⟩ : ChM)].length) * 88 ≤ 140737488355328 := by simp; omega
              have hbase : w.heap.size ≤ (W2.alloc (.cells #[.int .u8 2, .int .u64 (xcid : Int), .slice none 0 0, .int .u8 0, .string ⟨#[]⟩, .slice none 0 0] 79)).heap.size := HB4.out.1.size
              have HNW : Kept (∀ x ∈ [(⟨2, ⟨xcid, none, [], 0⟩, ⟨0, ⟨#[]⟩, none, [], 0⟩⟩ : ChM)], x.Ok w w.heap.size) := ⟨fun x hx => by
                rw [List.mem_singleton.1 hx]
                exact ⟨(show (2 : Nat) < 256 by decide), ⟨hxc, ⟨Rd.nil, fun z hz => by cases hz⟩, Nat.zero_le _, Nat.zero_le _⟩, ⟨Rd.nil, (show (0 : Nat) < 256 by decide), Nat.zero_le _, Nat.zero_le _⟩⟩⟩
              have hoB := HB4.out.2.1
              clear hbB
              go_wp2_with (at_builtin; refine wpl_appEU _ chE rfl (.tmp 65) (.tmp 73) 26 rfl w.heap.size 79 Try.underlying26 ch_info rfl _ cs rfl hoB _ _ _ _ [⟨2, ⟨xcid, none, [], 0⟩, ⟨0, ⟨#[]⟩, none, [], 0⟩⟩] rfl rfl hrn hz (by decide) hbase ?_; intro A9 c9 w9 r9 hr9 hown9 hu9 hx9)
              have HW9 := kept (HB4.out.app HNW.out hr9.out hown9 hu9)
              have HP9 : Kept (r9.map ChM.p = cs.map ChM.p ++ [(⟨2, ⟨xcid, none, [], 0⟩, ⟨0, ⟨#[]⟩, none, [], 0⟩⟩ : ChM).p]) := ⟨by rw [hr9.out, List.map_append]; rfl⟩
              clear hr9 hown9 hu9 hx9 hrn hoB HNW HB4 HI
              have HE : Kept (r9.map ChM.p ++ diffM (al.drop (i + 1)) (bl.drop k) = D) := ⟨by rw [HP9.out, List.append_assoc, ← HDD.out]; rfl⟩
              clear HP9 HDD
              go_wp2_with fail
              go_roundw
              case rel => exact ⟨i + 1, k, c9, A9, r9, by omega, by omega, rfl, by go_num, by go_num, ⟨HE.out, HW9.out⟩⟩
              case measure => simp [intOf]; omega
            · subst hcmp
              have hd : decide ((xcid : Int) < (xcid : Int)) = false := decide_eq_false (by omega)
              have HDD : Kept (cs.map ChM.p ++ (linesM ⟨xcid, xX, xls, xc⟩ ⟨xcid, yX, yls, yc⟩ ++ diffM (al.drop (i + 1)) (bl.drop (k + 1))) = D) := ⟨by
                rw [← HDI.out, hdx, hdy, diffM_eq (x := ⟨xcid, xX, xls, xc⟩) (y := ⟨xcid, yX, yls, yc⟩) _ _ rfl]⟩
              clear HDI hdx hdy
              have hz0q : Kept (∀ q, (wr.drewN q).cell? ⟨b1, o1 + i * 2, none⟩ = some (.int .u64 (xcid : Int))) := ⟨fun _ => z0⟩
              have hz1q : Kept (∀ q, (wr.drewN q).cell? ⟨b1, o1 + i * 2 + 1, none⟩ = some (.slice xX xls.length xc)) := ⟨fun _ => z1⟩
              have hu0q : Kept (∀ q, (wr.drewN q).cell? ⟨b2, o2 + k * 2, none⟩ = some (.int .u64 (xcid : Int))) := ⟨fun _ => u0⟩
              have hu1q : Kept (∀ q, (wr.drewN q).cell? ⟨b2, o2 + k * 2 + 1, none⟩ = some (.slice yX yls.length yc)) := ⟨fun _ => u1⟩
              go_wp2_with fail
              go_quiet (fail)
              clear z0 z1 u0 u1
              have HI2 := kept (HI.out.drewN nq)
              clear HI
              have HI := HI2
              clear HI2
              have z0 := hz0q.out nq
              have z1 := hz1q.out nq
              have u0 := hu0q.out nq
              have u1 := hu1q.out nq
              clear hz0q hz1q hu0q hu1q
              generalize wr.drewN nq = W2 at *
              have hz0q : Kept (∀ q, (W2.drewN q).cell? ⟨b1, o1 + i * 2, none⟩ = some (.int .u64 (xcid : Int))) := ⟨fun _ => z0⟩
              have hz1q : Kept (∀ q, (W2.drewN q).cell? ⟨b1, o1 + i * 2 + 1, none⟩ = some (.slice xX xls.length xc)) := ⟨fun _ => z1⟩
              have hu0q : Kept (∀ q, (W2.drewN q).cell? ⟨b2, o2 + k * 2, none⟩ = some (.int .u64 (xcid : Int))) := ⟨fun _ => u0⟩
              have hu1q : Kept (∀ q, (W2.drewN q).cell? ⟨b2, o2 + k * 2 + 1, none⟩ = some (.slice yX yls.length yc)) := ⟨fun _ => u1⟩
              go_wp2_with fail
              go_quiet (fail)
              clear z0 z1 u0 u1
              have HI2 := kept (HI.out.drewN nq)
              clear HI
              have HI := HI2
              clear HI2
              have z0 := hz0q.out nq
              have z1 := hz1q.out nq
              have u0 := hu0q.out nq
              have u1 := hu1q.out nq
              clear hz0q hz1q hu0q hu1q
              generalize W2.drewN nq = W3 at *
              have CL3 := kept (rlines2_any ⟨xcid, xX, xls, xc⟩ ⟨xcid, yX, yls, yc⟩ w W3.drew HI.out.1.drew hxo hyo)
              have HW3 := kept HI.out.drew
              have HLL := kept (lines_len ⟨xcid, xX, xls, xc⟩ ⟨xcid, yX, yls, yc⟩)
              unfold CardM.val at CL3
              dsimp only at CL3
              clear HI
              go_wp2_with fail
              go_region_law (first
                | (go_simp; go_at_call 44; refine CL3.out.mono ?_; rintro e w5 ⟨A5, c5, cs5, rfl, hps5, hown5, hok5, hb5⟩; have HW5 := kept (HW3.out.next hb5); have HNW := kept hok5; have hrn := hown5.rd; have hl5 : cs5.length ≤ 10 := (by have h1 := congrArg List.length hps5; rw [List.length_map] at h1; have h2 := HLL.out; omega); have hz : (cs.length + cs5.length) * 88 ≤ 140737488355328 := (by omega); have hbase : w.heap.size ≤ w5.heap.size := HW5.out.1.size; have hoB := HW5.out.2.1; have HPS := kept hps5; clear hps5 hown5 hok5 hb5)
                | (refine step_appEU _ chE (by rfl) (.tmp 26) (.tmp 35) 26 (by rfl) w.heap.size 79 Try.underlying26 ch_info (by rfl) _ cs (by rfl) hoB _ _ _ _ cs5 (by rfl) rfl hrn hz (by decide) hbase ?_; intro A9 c9 w9 r9 hr9 hown9 hu9 hx9; have HW9 := kept (HW5.out.app HNW.out hr9.out hown9 hu9); have HP9 : Kept (r9.map ChM.p = cs.map ChM.p ++ cs5.map ChM.p) := ⟨by rw [hr9.out, List.map_append]⟩; clear hr9 hown9 hu9 hx9 hrn hoB HNW HW5))
              all_goals
                have HE : Kept (r9.map ChM.p ++ diffM (al.drop (i + 1)) (bl.drop (k + 1)) = D) := ⟨by rw [HP9.out, HPS.out, List.append_assoc]; exact HDD.out⟩
                clear HDD HP9 HPS
                go_wp2_with fail
                go_roundw
                case rel => exact ⟨i + 1, k + 1, c9, A9, r9, by omega, by omega, rfl, by go_num, by go_num, ⟨HE.out, HW9.out⟩⟩
                case measure => simp [intOf]; omega
            · have hd : decide ((xcid : Int) < (ycid : Int)) = false := decide_eq_false (by omega)
              have hd2 : decide ((ycid : Int) < (xcid : Int)) = true := decide_eq_true (by omega)
              have HDD : Kept (cs.map ChM.p ++ newP ⟨ycid, yX, yls, yc⟩ :: diffM (al.drop i) (bl.drop (k + 1)) = D) := ⟨by
                rw [← HDI.out, hdx, hdy, diffM_gt _ _ hcmp]⟩
              clear HDI hdx hdy
              have hz0q : Kept (∀ q, (wr.drewN q).cell? ⟨b1, o1 + i * 2, none⟩ = some (.int .u64 (xcid : Int))) := ⟨fun _ => z0⟩
              have hz1q : Kept (∀ q, (wr.drewN q).cell? ⟨b1, o1 + i * 2 + 1, none⟩ = some (.slice xX xls.length xc)) := ⟨fun _ => z1⟩
              have hu0q : Kept (∀ q, (wr.drewN q).cell? ⟨b2, o2 + k * 2, none⟩ = some (.int .u64 (ycid : Int))) := ⟨fun _ => u0⟩
              have hu1q : Kept (∀ q, (wr.drewN q).cell? ⟨b2, o2 + k * 2 + 1, none⟩ = some (.slice yX yls.length yc)) := ⟨fun _ => u1⟩
              go_wp2_with fail
              go_quiet (fail)
              clear z0 z1 u0 u1
              have HI2 := kept (HI.out.drewN nq)
              clear HI
              have HI := HI2
              clear HI2
              have z0 := hz0q.out nq
              have z1 := hz1q.out nq
              have u0 := hu0q.out nq
              have u1 := hu1q.out nq
              clear hz0q hz1q hu0q hu1q
              generalize wr.drewN nq = W2 at *
              have hz0q : Kept (∀ q, (W2.drewN q).cell? ⟨b1, o1 + i * 2, none⟩ = some (.int .u64 (xcid : Int))) := ⟨fun _ => z0⟩
              have hz1q : Kept (∀ q, (W2.drewN q).cell? ⟨b1, o1 + i * 2 + 1, none⟩ = some (.slice xX xls.length xc)) := ⟨fun _ => z1⟩
              have hu0q : Kept (∀ q, (W2.drewN q).cell? ⟨b2, o2 + k * 2, none⟩ = some (.int .u64 (ycid : Int))) := ⟨fun _ => u0⟩
              have hu1q : Kept (∀ q, (W2.drewN q).cell? ⟨b2, o2 + k * 2 + 1, none⟩ = some (.slice yX yls.length yc)) := ⟨fun _ => u1⟩
              go_wp2_with fail
              go_quiet (fail)
              clear z0 z1 u0 u1
              have HI2 := kept (HI.out.drewN nq)
              clear HI
              have HI := HI2
              clear HI2
              have z0 := hz0q.out nq
              have z1 := hz1q.out nq
              have u0 := hu0q.out nq
              have u1 := hu1q.out nq
              clear hz0q hz1q hu0q hu1q
              generalize W2.drewN nq = W3 at *
              have hbB : Below W3.heap.size W3 (W3.alloc (.cells #[.int .u8 1, .int .u64 (ycid : Int), .slice yX yls.length yc, .int .u8 0, .string ⟨#[]⟩, .slice none 0 0] 79)) := (Below.refl _ _).alloc (Nat.le_refl _) _
              have HB4 := kept (HI.out.next hbB)
              have hrn : chE.Rd (W3.alloc (.cells #[.int .u8 1, .int .u64 (ycid : Int), .slice yX yls.length yc, .int .u8 0, .string ⟨#[]⟩, .slice none 0 0] 79)) (W3.heap.size + 1) (some ⟨W3.heap.size, 0, none⟩) [⟨1, ⟨ycid, yX, yls, yc⟩, ⟨0, ⟨#[]⟩, none, [], 0⟩⟩] := Rd.newAt W3 [.int .u8 1, .int .u64 (ycid : Int), .slice yX yls.length yc, .int .u8 0, .string ⟨#[]⟩, .slice none 0 0] 79 (by first | rfl | simp) (Nat.le_refl _)
              have hz : (cs.length + [(⟨1, ⟨ycid, yX, yls, yc⟩, ⟨0, ⟨#[]⟩, none, [], 0⟩⟩ : ChM)].length) * 88 ≤ 140737488355328 := by simp; omega
              have hbase : w.heap.size ≤ (W3.alloc (.cells #[.int .u8 1, .int .u64 (ycid : Int), .slice yX yls.length yc, .int .u8 0, .string ⟨#[]⟩, .slice none 0 0] 79)).heap.size := HB4.out.1.size
              have HNW : Kept (∀ x ∈ [(⟨1, ⟨ycid, yX, yls, yc⟩, ⟨0, ⟨#[]⟩, none, [], 0⟩⟩ : ChM)], x.Ok w w.heap.size) := ⟨fun x hx => by
                rw [List.mem_singleton.1 hx]
                exact ⟨(show (1 : Nat) < 256 by decide), hyo, ⟨Rd.nil, (show (0 : Nat) < 256 by decide), Nat.zero_le _, Nat.zero_le _⟩⟩⟩
              have hoB := HB4.out.2.1
              clear hbB
              go_wp2_with (at_builtin; refine wpl_appEU _ chE rfl (.tmp 95) (.tmp 101) 26 rfl w.heap.size 79 Try.underlying26 ch_info rfl _ cs rfl hoB _ _ _ _ [⟨1, ⟨ycid, yX, yls, yc⟩, ⟨0, ⟨#[]⟩, none, [], 0⟩⟩] rfl rfl hrn hz (by decide) hbase ?_; intro A9 c9 w9 r9 hr9 hown9 hu9 hx9)
              have HW9 := kept (HB4.out.app HNW.out hr9.out hown9 hu9)
              have HP9 : Kept (r9.map ChM.p = cs.map ChM.p ++ [(⟨1, ⟨ycid, yX, yls, yc⟩, ⟨0, ⟨#[]⟩, none, [], 0⟩⟩ : ChM).p]) := ⟨by rw [hr9.out, List.map_append]; rfl⟩
              clear hr9 hown9 hu9 hx9 hrn hoB HNW HB4 HI
              have HE : Kept (r9.map ChM.p ++ diffM (al.drop i) (bl.drop (k + 1)) = D) := ⟨by rw [HP9.out, List.append_assoc, ← HDD.out]; rfl⟩
              clear HP9 HDD
              go_wp2_with fail
              go_roundw
              case rel => exact ⟨i, k + 1, c9, A9, r9, by omega, by omega, rfl, by go_num, by go_num, ⟨HE.out, HW9.out⟩⟩
              case measure => simp [intOf]; omega
          · have hdy : bl.drop k = [] := List.drop_of_length_le (by omega)
            have hk2 : decide ((k : Int) < (bl.length : Int)) = false := decide_eq_false (by omega)
            have hk3 : decide ((bl.length : Int) ≤ (k : Int)) = true := decide_eq_true (by omega)
            have hk7 : decide (k < bl.length) = false := decide_eq_false (by omega)
            have hk8 : decide (bl.length ≤ k) = true := decide_eq_true (by omega)
            have hk4 : (bl.length : Int) ≤ (k : Int) := by omega
            have HDD : Kept (cs.map ChM.p ++ goneP ⟨xcid, xX, xls, xc⟩ :: diffM (al.drop (i + 1)) (bl.drop k) = D) := ⟨by
              rw [← HDI.out, hdx, hdy, diffM_nil, diffM_nil]; rfl⟩
            clear HDI hdx hdy
            have hz0q : Kept (∀ q, (wr.drewN q).cell? ⟨b1, o1 + i * 2, none⟩ = some (.int .u64 (xcid : Int))) := ⟨fun _ => z0⟩
            have hz1q : Kept (∀ q, (wr.drewN q).cell? ⟨b1, o1 + i * 2 + 1, none⟩ = some (.slice xX xls.length xc)) := ⟨fun _ => z1⟩
            go_wp2_with fail
            go_quiet (fail)
            clear z0 z1
            have HI2 := kept (HI.out.drewN nq)
            clear HI
            have HI := HI2
            clear HI2
            have z0 := hz0q.out nq
            have z1 := hz1q.out nq
            clear hz0q hz1q
            generalize wr.drewN nq = W2 at *
            have hbB : Below W2.heap.size W2 (W2.alloc (.cells #[.int .u8 2, .int .u64 (xcid : Int), .slice none 0 0, .int .u8 0, .string ⟨#[]⟩, .slice none 0 0] 79)) := (Below.refl _ _).alloc (Nat.le_refl _) _
            have HB4 := kept (HI.out.next hbB)
            have hrn : chE.Rd (W2.alloc (.cells #[.int .u8 2, .int .u64 (xcid : Int), .slice none 0 0, .int .u8 0, .string ⟨#[]⟩, .slice none 0 0] 79)) (W2.heap.size + 1) (some ⟨W2.heap.size, 0, none⟩) [⟨2, ⟨xcid, none, [], 0⟩, ⟨0, ⟨#[]⟩, none, [], 0⟩⟩] := Rd.newAt W2 [.int .u8 2, .int .u64 (xcid : Int), .slice none 0 0, .int .u8 0, .string ⟨#[]⟩, .slice none 0 0] 79 (by first | rfl | simp) (Nat.le_refl _)
            have hz : (cs.length + [(⟨2, ⟨xcid, none, [], 0⟩, ⟨0, ⟨#[]⟩, none, [], 0⟩⟩ : ChM)].length) * 88 ≤ 140737488355328 := by simp; omega
            have hbase : w.heap.size ≤ (W2.alloc (.cells #[.int .u8 2, .int .u64 (xcid : Int), .slice none 0 0, .int .u8 0, .string ⟨#[]⟩, .slice none 0 0] 79)).heap.size := HB4.out.1.size
            have HNW : Kept (∀ x ∈ [(⟨2, ⟨xcid, none, [], 0⟩, ⟨0, ⟨#[]⟩, none, [], 0⟩⟩ : ChM)], x.Ok w w.heap.size) := ⟨fun x hx => by
              rw [List.mem_singleton.1 hx]
              exact ⟨(show (2 : Nat) < 256 by decide), ⟨hxc, ⟨Rd.nil, fun z hz => by cases hz⟩, Nat.zero_le _, Nat.zero_le _⟩, ⟨Rd.nil, (show (0 : Nat) < 256 by decide), Nat.zero_le _, Nat.zero_le _⟩⟩⟩
            have hoB := HB4.out.2.1
            clear hbB
            go_wp2_with (at_builtin; refine wpl_appEU _ chE rfl (.tmp 65) (.tmp 73) 26 rfl w.heap.size 79 Try.underlying26 ch_info rfl _ cs rfl hoB _ _ _ _ [⟨2, ⟨xcid, none, [], 0⟩, ⟨0, ⟨#[]⟩, none, [], 0⟩⟩] rfl rfl hrn hz (by decide) hbase ?_; intro A9 c9 w9 r9 hr9 hown9 hu9 hx9)
            have HW9 := kept (HB4.out.app HNW.out hr9.out hown9 hu9)
            have HP9 : Kept (r9.map ChM.p = cs.map ChM.p ++ [(⟨2, ⟨xcid, none, [], 0⟩, ⟨0, ⟨#[]⟩, none, [], 0⟩⟩ : ChM).p]) := ⟨by rw [hr9.out, List.map_append]; rfl⟩
            clear hr9 hown9 hu9 hx9 hrn hoB HNW HB4 HI
            have HE : Kept (r9.map ChM.p ++ diffM (al.drop (i + 1)) (bl.drop k) = D) := ⟨by rw [HP9.out, List.append_assoc, ← HDD.out]; rfl⟩
            clear HP9 HDD
            go_wp2_with fail
            go_roundw
            case rel => exact ⟨i + 1, k, c9, A9, r9, by omega, by omega, rfl, by go_num, by go_num, ⟨HE.out, HW9.out⟩⟩
            case measure => simp [intOf]; omega
        · have hdx : al.drop i = [] := List.drop_of_length_le (by omega)
          have hi2 : decide ((i : Int) < (al.length : Int)) = false := decide_eq_false (by omega)
          have hi3 : decide ((al.length : Int) ≤ (i : Int)) = true := decide_eq_true (by omega)
          have hi7 : decide (i < al.length) = false := decide_eq_false (by omega)
          have hi8 : decide (al.length ≤ i) = true := decide_eq_true (by omega)
          have hi4 : (al.length : Int) ≤ (i : Int) := by omega
          by_cases hkl : k < bl.length
          · obtain ⟨y, hy⟩ : ∃ y, bl[k]? = some y := ⟨_, List.getElem?_eq_getElem hkl⟩
            obtain ⟨b2, o2, rfl, hb2, y0, y1, hyo⟩ := RdCards.at_ HB.out hy
            have u0 := (HI.out.1.cell (p := ⟨b2, o2 + k * 2, none⟩) hb2).trans y0
            have u1 := (HI.out.1.cell (p := ⟨b2, o2 + k * 2 + 1, none⟩) hb2).trans y1
            have hdy := drop_at hy
            obtain ⟨ycid, yX, yls, yc⟩ := y
            dsimp only at u0 u1
            clear y0 y1 hy
            have hk1 : decide ((k : Int) < (bl.length : Int)) = true := decide_eq_true (by omega)
            have hk3 : decide ((bl.length : Int) ≤ (k : Int)) = false := decide_eq_false (by omega)
            have hk7 : decide (k < bl.length) = true := decide_eq_true (by omega)
            have hk8 : decide (bl.length ≤ k) = false := decide_eq_false (by omega)
            have hk4 : (k : Int) < (bl.length : Int) := by omega
            have hk5 : (0 : Int) ≤ (k : Int) := by omega
            have HDD : Kept (cs.map ChM.p ++ newP ⟨ycid, yX, yls, yc⟩ :: diffM (al.drop i) (bl.drop (k + 1)) = D) := ⟨by
              rw [← HDI.out, hdy, hdx, diffM_new]⟩
            clear HDI hdy hdx
            have hu0q : Kept ((wr.drew).cell? ⟨b2, o2 + k * 2, none⟩ = some (.int .u64 (ycid : Int))) := ⟨u0⟩
            have hu1q : Kept ((wr.drew).cell? ⟨b2, o2 + k * 2 + 1, none⟩ = some (.slice yX yls.length yc)) := ⟨u1⟩
            go_upto_region 9 with fail
            refine wp_region_any (by kernel_rfl) ?_
            change wpAny _ _ _ _ _ _ _ (World.drew _)
            refine wpAny_take (i := 0) (v := ?_) rfl (by kernel_rfl) (by kernel_rfl) (by kernel_rfl) (fun _ _ _ h => h) (Or.inl ⟨by rfl, ?_⟩) ?_
            case refine_2 => (intro w; go_simp; try with_reducible rfl)
            try simp only [Act.put, List.setIfInBounds_toArray, List.set_cons_zero, List.set_cons_succ, List.getElem_toArray, List.getElem_cons_zero, List.getElem_cons_succ]
            refine wpAny_take (i := 1) (v := ?_) rfl (by kernel_rfl) (by kernel_rfl) (by kernel_rfl) (fun _ _ _ h => h) (Or.inl ⟨by rfl, ?_⟩) ?_
            case refine_2 => (intro w; go_simp; try with_reducible rfl)
            try simp only [Act.put, List.setIfInBounds_toArray, List.set_cons_zero, List.set_cons_succ, List.getElem_toArray, List.getElem_cons_zero, List.getElem_cons_succ]
            refine wpAny_take (i := 2) (v := ?_) rfl (by kernel_rfl) (by kernel_rfl) (by kernel_rfl) (fun _ _ _ h => h) (Or.inl ⟨by rfl, ?_⟩) ?_
            case refine_2 => (intro w; go_simp; try with_reducible rfl)
            try simp only [Act.put, List.setIfInBounds_toArray, List.set_cons_zero, List.set_cons_succ, List.getElem_toArray, List.getElem_cons_zero, List.getElem_cons_succ]
            refine wpAny_take (i := 3) (v := ?_) rfl (by kernel_rfl) (by kernel_rfl) (by kernel_rfl) (fun _ _ _ h => h) (Or.inl ⟨by rfl, ?_⟩) ?_
            case refine_2 => (intro w; go_simp; try with_reducible rfl)
            try simp only [Act.put, List.setIfInBounds_toArray, List.set_cons_zero, List.set_cons_succ, List.getElem_toArray, List.getElem_cons_zero, List.getElem_cons_succ]
            refine wpAny_take (i := 4) (v := ?_) rfl (by kernel_rfl) (by kernel_rfl) (by kernel_rfl) (fun _ _ _ h => h) (Or.inl ⟨by rfl, ?_⟩) ?_
            case refine_2 => (intro w; go_simp; try with_reducible rfl)
            try simp only [Act.put, List.setIfInBounds_toArray, List.set_cons_zero, List.set_cons_succ, List.getElem_toArray, List.getElem_cons_zero, List.getElem_cons_succ]
            refine wpAny_take (i := 5) (v := ?_) rfl (by kernel_rfl) (by kernel_rfl) (by kernel_rfl) (fun _ _ _ h => h) (Or.inl ⟨by rfl, ?_⟩) ?_
            case refine_2 => (intro w; go_simp; try with_reducible rfl)
            try simp only [Act.put, List.setIfInBounds_toArray, List.set_cons_zero, List.set_cons_succ, List.getElem_toArray, List.getElem_cons_zero, List.getElem_cons_succ]
            refine wpAny_take (i := 6) (v := ?_) rfl (by kernel_rfl) (by kernel_rfl) (by kernel_rfl) (fun _ _ _ h => h) (Or.inl ⟨by rfl, ?_⟩) ?_
            case refine_2 => (intro w; go_simp; try with_reducible rfl)
            try simp only [Act.put, List.setIfInBounds_toArray, List.set_cons_zero, List.set_cons_succ, List.getElem_toArray, List.getElem_cons_zero, List.getElem_cons_succ]
            refine wpAny_take (i := 7) (v := ?_) rfl (by kernel_rfl) (by kernel_rfl) (by kernel_rfl) (fun _ _ _ h => h) (Or.inl ⟨by rfl, ?_⟩) ?_
            case refine_2 => (intro w; go_simp; try with_reducible rfl)
            try simp only [Act.put, List.setIfInBounds_toArray, List.set_cons_zero, List.set_cons_succ, List.getElem_toArray, List.getElem_cons_zero, List.getElem_cons_succ]
            refine wpAny_take (i := 8) (v := ?_) rfl (by kernel_rfl) (by kernel_rfl) (by kernel_rfl) (fun _ _ _ h => h) (Or.inl ⟨by rfl, ?_⟩) ?_
            case refine_2 => (intro w; go_simp; try with_reducible rfl)
            try simp only [Act.put, List.setIfInBounds_toArray, List.set_cons_zero, List.set_cons_succ, List.getElem_toArray, List.getElem_cons_zero, List.getElem_cons_succ]
            refine wpAny_take (i := 9) (v := ?_) rfl (by kernel_rfl) (by kernel_rfl) (by kernel_rfl) (fun _ _ _ h => h) (Or.inl ⟨by rfl, ?_⟩) ?_
            case refine_2 => (intro w; go_simp; try with_reducible rfl)
            try simp only [Act.put, List.setIfInBounds_toArray, List.set_cons_zero, List.set_cons_succ, List.getElem_toArray, List.getElem_cons_zero, List.getElem_cons_succ]
            refine wpAny_take (i := 10) (v := undef) rfl (by kernel_rfl) (by kernel_rfl) (by kernel_rfl) (fun _ _ _ h => h) (Or.inr ⟨by rfl, rfl⟩) ?_
            try simp only [Act.put, List.setIfInBounds_toArray, List.set_cons_zero, List.set_cons_succ, List.getElem_toArray, List.getElem_cons_zero, List.getElem_cons_succ]
            refine wpAny_take (i := 11) (v := undef) rfl (by kernel_rfl) (by kernel_rfl) (by kernel_rfl) (fun _ _ _ h => h) (Or.inr ⟨by rfl, rfl⟩) ?_
            try simp only [Act.put, List.setIfInBounds_toArray, List.set_cons_zero, List.set_cons_succ, List.getElem_toArray, List.getElem_cons_zero, List.getElem_cons_succ]
            refine wpAny_take (i := 12) (v := undef) rfl (by kernel_rfl) (by kernel_rfl) (by kernel_rfl) (fun _ _ _ h => h) (Or.inr ⟨by rfl, rfl⟩) ?_
            try simp only [Act.put, List.setIfInBounds_toArray, List.set_cons_zero, List.set_cons_succ, List.getElem_toArray, List.getElem_cons_zero, List.getElem_cons_succ]
            refine wpAny_take (i := 13) (v := undef) rfl (by kernel_rfl) (by kernel_rfl) (by kernel_rfl) (fun _ _ _ h => h) (Or.inr ⟨by rfl, rfl⟩) ?_
            try simp only [Act.put, List.setIfInBounds_toArray, List.set_cons_zero, List.set_cons_succ, List.getElem_toArray, List.getElem_cons_zero, List.getElem_cons_succ]
            refine wpAny_take (i := 14) (v := undef) rfl (by kernel_rfl) (by kernel_rfl) (by kernel_rfl) (fun _ _ _ h => h) (Or.inr ⟨by rfl, rfl⟩) ?_
            try simp only [Act.put, List.setIfInBounds_toArray, List.set_cons_zero, List.set_cons_succ, List.getElem_toArray, List.getElem_cons_zero, List.getElem_cons_succ]
            refine wpAny_take (i := 15) (v := undef) rfl (by kernel_rfl) (by kernel_rfl) (by kernel_rfl) (fun _ _ _ h => h) (Or.inr ⟨by rfl, rfl⟩) ?_
            try simp only [Act.put, List.setIfInBounds_toArray, List.set_cons_zero, List.set_cons_succ, List.getElem_toArray, List.getElem_cons_zero, List.getElem_cons_succ]
            refine wpAny_take (i := 16) (v := undef) rfl (by kernel_rfl) (by kernel_rfl) (by kernel_rfl) (fun _ _ _ h => h) (Or.inr ⟨by rfl, rfl⟩) ?_
            try simp only [Act.put, List.setIfInBounds_toArray, List.set_cons_zero, List.set_cons_succ, List.getElem_toArray, List.getElem_cons_zero, List.getElem_cons_succ]
            refine wpAny_take (i := 17) (v := undef) rfl (by kernel_rfl) (by kernel_rfl) (by kernel_rfl) (fun _ _ _ h => h) (Or.inr ⟨by rfl, rfl⟩) ?_
            try simp only [Act.put, List.setIfInBounds_toArray, List.set_cons_zero, List.set_cons_succ, List.getElem_toArray, List.getElem_cons_zero, List.getElem_cons_succ]
            refine wpAny_take (i := 18) (v := undef) rfl (by kernel_rfl) (by kernel_rfl) (by kernel_rfl) (fun _ _ _ h => h) (Or.inr ⟨by rfl, rfl⟩) ?_
            try simp only [Act.put, List.setIfInBounds_toArray, List.set_cons_zero, List.set_cons_succ, List.getElem_toArray, List.getElem_cons_zero, List.getElem_cons_succ]
            refine wpAny_take (i := 19) (v := undef) rfl (by kernel_rfl) (by kernel_rfl) (by kernel_rfl) (fun _ _ _ h => h) (Or.inr ⟨by rfl, rfl⟩) ?_
            try simp only [Act.put, List.setIfInBounds_toArray, List.set_cons_zero, List.set_cons_succ, List.getElem_toArray, List.getElem_cons_zero, List.getElem_cons_succ]
            refine wpAny_take (i := 20) (v := undef) rfl (by kernel_rfl) (by kernel_rfl) (by kernel_rfl) (fun _ _ _ h => h) (Or.inr ⟨by rfl, rfl⟩) ?_
            try simp only [Act.put, List.setIfInBounds_toArray, List.set_cons_zero, List.set_cons_succ, List.getElem_toArray, List.getElem_cons_zero, List.getElem_cons_succ]
            refine wpAny_take (i := 21) (v := ?_) rfl (by kernel_rfl) (by kernel_rfl) (by kernel_rfl) (fun _ _ _ h => h) (Or.inl ⟨by rfl, ?_⟩) ?_
            case refine_2 => (intro w; go_simp; try with_reducible rfl)
            try simp only [Act.put, List.setIfInBounds_toArray, List.set_cons_zero, List.set_cons_succ, List.getElem_toArray, List.getElem_cons_zero, List.getElem_cons_succ]
            refine wpAny_take (i := 22) (v := ?_) rfl (by kernel_rfl) (by kernel_rfl) (by kernel_rfl) (fun _ _ _ h => h) (Or.inl ⟨by rfl, ?_⟩) ?_
            case refine_2 => (intro w; go_simp; try with_reducible rfl)
            try simp only [Act.put, List.setIfInBounds_toArray, List.set_cons_zero, List.set_cons_succ, List.getElem_toArray, List.getElem_cons_zero, List.getElem_cons_succ]
            refine wpAny_take (i := 23) (v := ?_) rfl (by kernel_rfl) (by kernel_rfl) (by kernel_rfl) (fun _ _ _ h => h) (Or.inl ⟨by rfl, ?_⟩) ?_
            case refine_2 => (intro w; go_simp; try with_reducible rfl)
            try simp only [Act.put, List.setIfInBounds_toArray, List.set_cons_zero, List.set_cons_succ, List.getElem_toArray, List.getElem_cons_zero, List.getElem_cons_succ]
            refine wpAny_done (by kernel_rfl) ?_ _
            clear u0 u1
            have HI2 := kept HI.out.drew
            clear HI
            have HI := HI2
            clear HI2
            have u0 := hu0q.out
            have u1 := hu1q.out
            clear hu0q hu1q
            generalize wr.drew = W2 at *
            have hu0q : Kept ((W2.drew).cell? ⟨b2, o2 + k * 2, none⟩ = some (.int .u64 (ycid : Int))) := ⟨u0⟩
            have hu1q : Kept ((W2.drew).cell? ⟨b2, o2 + k * 2 + 1, none⟩ = some (.slice yX yls.length yc)) := ⟨u1⟩
            go_upto_region 12 with fail
            refine wp_region_any (by kernel_rfl) ?_
            change wpAny _ _ _ _ _ _ _ (World.drew _)
            refine wpAny_take (i := 0) (v := ?_) rfl (by kernel_rfl) (by kernel_rfl) (by kernel_rfl) (fun _ _ _ h => h) (Or.inl ⟨by rfl, ?_⟩) ?_
            case refine_2 => (intro w; go_simp; try with_reducible rfl)
            try simp only [Act.put, List.setIfInBounds_toArray, List.set_cons_zero, List.set_cons_succ, List.getElem_toArray, List.getElem_cons_zero, List.getElem_cons_succ]
            refine wpAny_take (i := 1) (v := ?_) rfl (by kernel_rfl) (by kernel_rfl) (by kernel_rfl) (fun _ _ _ h => h) (Or.inl ⟨by rfl, ?_⟩) ?_
            case refine_2 => (intro w; go_simp; try with_reducible rfl)
            try simp only [Act.put, List.setIfInBounds_toArray, List.set_cons_zero, List.set_cons_succ, List.getElem_toArray, List.getElem_cons_zero, List.getElem_cons_succ]
            refine wpAny_take (i := 2) (v := ?_) rfl (by kernel_rfl) (by kernel_rfl) (by kernel_rfl) (fun _ _ _ h => h) (Or.inl ⟨by rfl, ?_⟩) ?_
            case refine_2 => (intro w; go_simp; try with_reducible rfl)
            try simp only [Act.put, List.setIfInBounds_toArray, List.set_cons_zero, List.set_cons_succ, List.getElem_toArray, List.getElem_cons_zero, List.getElem_cons_succ]
            refine wpAny_take (i := 3) (v := ?_) rfl (by kernel_rfl) (by kernel_rfl) (by kernel_rfl) (fun _ _ _ h => h) (Or.inl ⟨by rfl, ?_⟩) ?_
            case refine_2 => (intro w; go_simp; try with_reducible rfl)
            try simp only [Act.put, List.setIfInBounds_toArray, List.set_cons_zero, List.set_cons_succ, List.getElem_toArray, List.getElem_cons_zero, List.getElem_cons_succ]
            refine wpAny_take (i := 4) (v := ?_) rfl (by kernel_rfl) (by kernel_rfl) (by kernel_rfl) (fun _ _ _ h => h) (Or.inl ⟨by rfl, ?_⟩) ?_
            case refine_2 => (intro w; go_simp; try with_reducible rfl)
            try simp only [Act.put, List.setIfInBounds_toArray, List.set_cons_zero, List.set_cons_succ, List.getElem_toArray, List.getElem_cons_zero, List.getElem_cons_succ]
            refine wpAny_take (i := 5) (v := undef) rfl (by kernel_rfl) (by kernel_rfl) (by kernel_rfl) (fun _ _ _ h => h) (Or.inr ⟨by rfl, rfl⟩) ?_
            try simp only [Act.put, List.setIfInBounds_toArray, List.set_cons_zero, List.set_cons_succ, List.getElem_toArray, List.getElem_cons_zero, List.getElem_cons_succ]
            refine wpAny_take (i := 6) (v := undef) rfl (by kernel_rfl) (by kernel_rfl) (by kernel_rfl) (fun _ _ _ h => h) (Or.inr ⟨by rfl, rfl⟩) ?_
            try simp only [Act.put, List.setIfInBounds_toArray, List.set_cons_zero, List.set_cons_succ, List.getElem_toArray, List.getElem_cons_zero, List.getElem_cons_succ]
            refine wpAny_take (i := 7) (v := undef) rfl (by kernel_rfl) (by kernel_rfl) (by kernel_rfl) (fun _ _ _ h => h) (Or.inr ⟨by rfl, rfl⟩) ?_
            try simp only [Act.put, List.setIfInBounds_toArray, List.set_cons_zero, List.set_cons_succ, List.getElem_toArray, List.getElem_cons_zero, List.getElem_cons_succ]
            refine wpAny_take (i := 8) (v := undef) rfl (by kernel_rfl) (by kernel_rfl) (by kernel_rfl) (fun _ _ _ h => h) (Or.inr ⟨by rfl, rfl⟩) ?_
            try simp only [Act.put, List.setIfInBounds_toArray, List.set_cons_zero, List.set_cons_succ, List.getElem_toArray, List.getElem_cons_zero, List.getElem_cons_succ]
            refine wpAny_take (i := 9) (v := undef) rfl (by kernel_rfl) (by kernel_rfl) (by kernel_rfl) (fun _ _ _ h => h) (Or.inr ⟨by rfl, rfl⟩) ?_
            try simp only [Act.put, List.setIfInBounds_toArray, List.set_cons_zero, List.set_cons_succ, List.getElem_toArray, List.getElem_cons_zero, List.getElem_cons_succ]
            refine wpAny_take (i := 10) (v := undef) rfl (by kernel_rfl) (by kernel_rfl) (by kernel_rfl) (fun _ _ _ h => h) (Or.inr ⟨by rfl, rfl⟩) ?_
            try simp only [Act.put, List.setIfInBounds_toArray, List.set_cons_zero, List.set_cons_succ, List.getElem_toArray, List.getElem_cons_zero, List.getElem_cons_succ]
            refine wpAny_take (i := 11) (v := undef) rfl (by kernel_rfl) (by kernel_rfl) (by kernel_rfl) (fun _ _ _ h => h) (Or.inr ⟨by rfl, rfl⟩) ?_
            try simp only [Act.put, List.setIfInBounds_toArray, List.set_cons_zero, List.set_cons_succ, List.getElem_toArray, List.getElem_cons_zero, List.getElem_cons_succ]
            refine wpAny_take (i := 12) (v := undef) rfl (by kernel_rfl) (by kernel_rfl) (by kernel_rfl) (fun _ _ _ h => h) (Or.inr ⟨by rfl, rfl⟩) ?_
            try simp only [Act.put, List.setIfInBounds_toArray, List.set_cons_zero, List.set_cons_succ, List.getElem_toArray, List.getElem_cons_zero, List.getElem_cons_succ]
            refine wpAny_take (i := 13) (v := undef) rfl (by kernel_rfl) (by kernel_rfl) (by kernel_rfl) (fun _ _ _ h => h) (Or.inr ⟨by rfl, rfl⟩) ?_
            try simp only [Act.put, List.setIfInBounds_toArray, List.set_cons_zero, List.set_cons_succ, List.getElem_toArray, List.getElem_cons_zero, List.getElem_cons_succ]
            refine wpAny_take (i := 14) (v := undef) rfl (by kernel_rfl) (by kernel_rfl) (by kernel_rfl) (fun _ _ _ h => h) (Or.inr ⟨by rfl, rfl⟩) ?_
            try simp only [Act.put, List.setIfInBounds_toArray, List.set_cons_zero, List.set_cons_succ, List.getElem_toArray, List.getElem_cons_zero, List.getElem_cons_succ]
            refine wpAny_take (i := 15) (v := undef) rfl (by kernel_rfl) (by kernel_rfl) (by kernel_rfl) (fun _ _ _ h => h) (Or.inr ⟨by rfl, rfl⟩) ?_
            try simp only [Act.put, List.setIfInBounds_toArray, List.set_cons_zero, List.set_cons_succ, List.getElem_toArray, List.getElem_cons_zero, List.getElem_cons_succ]
            refine wpAny_take (i := 16) (v := ?_) rfl (by kernel_rfl) (by kernel_rfl) (by kernel_rfl) (fun _ _ _ h => h) (Or.inl ⟨by rfl, ?_⟩) ?_
            case refine_2 => (intro w; go_simp; try with_reducible rfl)
            try simp only [Act.put, List.setIfInBounds_toArray, List.set_cons_zero, List.set_cons_succ, List.getElem_toArray, List.getElem_cons_zero, List.getElem_cons_succ]
            refine wpAny_take (i := 17) (v := ?_) rfl (by kernel_rfl) (by kernel_rfl) (by kernel_rfl) (fun _ _ _ h => h) (Or.inl ⟨by rfl, ?_⟩) ?_
            case refine_2 => (intro w; go_simp; try with_reducible rfl)
            try simp only [Act.put, List.setIfInBounds_toArray, List.set_cons_zero, List.set_cons_succ, List.getElem_toArray, List.getElem_cons_zero, List.getElem_cons_succ]
            refine wpAny_done (by kernel_rfl) ?_ _
            clear u0 u1
            have HI2 := kept HI.out.drew
            clear HI
            have HI := HI2
            clear HI2
            have u0 := hu0q.out
            have u1 := hu1q.out
            clear hu0q hu1q
            generalize W2.drew = W3 at *
            have hbB : Below W3.heap.size W3 (W3.alloc (.cells #[.int .u8 1, .int .u64 (ycid : Int), .slice yX yls.length yc, .int .u8 0, .string ⟨#[]⟩, .slice none 0 0] 79)) := (Below.refl _ _).alloc (Nat.le_refl _) _
            have HB4 := kept (HI.out.next hbB)
            have hrn : chE.Rd (W3.alloc (.cells #[.int .u8 1, .int .u64 (ycid : Int), .slice yX yls.length yc, .int .u8 0, .string ⟨#[]⟩, .slice none 0 0] 79)) (W3.heap.size + 1) (some ⟨W3.heap.size, 0, none⟩) [⟨1, ⟨ycid, yX, yls, yc⟩, ⟨0, ⟨#[]⟩, none, [], 0⟩⟩] := Rd.newAt W3 [.int .u8 1, .int .u64 (ycid : Int), .slice yX yls.length yc, .int .u8 0, .string ⟨#[]⟩, .slice none 0 0] 79 (by first | rfl | simp) (Nat.le_refl _)
            have hz : (cs.length + [(⟨1, ⟨ycid, yX, yls, yc⟩, ⟨0, ⟨#[]⟩, none, [], 0⟩⟩ : ChM)].length) * 88 ≤ 140737488355328 := by simp; omega
            have hbase : w.heap.size ≤ (W3.alloc (.cells #[.int .u8 1, .int .u64 (ycid : Int), .slice yX yls.length yc, .int .u8 0, .string ⟨#[]⟩, .slice none 0 0] 79)).heap.size := HB4.out.1.size
            have HNW : Kept (∀ x ∈ [(⟨1, ⟨ycid, yX, yls, yc⟩, ⟨0, ⟨#[]⟩, none, [], 0⟩⟩ : ChM)], x.Ok w w.heap.size) := ⟨fun x hx => by
              rw [List.mem_singleton.1 hx]
              exact ⟨(show (1 : Nat) < 256 by decide), hyo, ⟨Rd.nil, (show (0 : Nat) < 256 by decide), Nat.zero_le _, Nat.zero_le _⟩⟩⟩
            have hoB := HB4.out.2.1
            clear hbB
            go_wp2_with (at_builtin; refine wpl_appEU _ chE rfl (.tmp 95) (.tmp 101) 26 rfl w.heap.size 79 Try.underlying26 ch_info rfl _ cs rfl hoB _ _ _ _ [⟨1, ⟨ycid, yX, yls, yc⟩, ⟨0, ⟨#[]⟩, none, [], 0⟩⟩] rfl rfl hrn hz (by decide) hbase ?_; intro A9 c9 w9 r9 hr9 hown9 hu9 hx9)
            have HW9 := kept (HB4.out.app HNW.out hr9.out hown9 hu9)
            have HP9 : Kept (r9.map ChM.p = cs.map ChM.p ++ [(⟨1, ⟨ycid, yX, yls, yc⟩, ⟨0, ⟨#[]⟩, none, [], 0⟩⟩ : ChM).p]) := ⟨by rw [hr9.out, List.map_append]; rfl⟩
            clear hr9 hown9 hu9 hx9 hrn hoB HNW HB4 HI
            have HE : Kept (r9.map ChM.p ++ diffM (al.drop i) (bl.drop (k + 1)) = D) := ⟨by rw [HP9.out, List.append_assoc, ← HDD.out]; rfl⟩
            clear HP9 HDD
            go_wp2_with fail
            go_roundw
            case rel => exact ⟨i, k + 1, c9, A9, r9, by omega, by omega, rfl, by go_num, by go_num, ⟨HE.out, HW9.out⟩⟩
            case measure => simp [intOf]; omega
          · have hdy : bl.drop k = [] := List.drop_of_length_le (by omega)
            have hk2 : decide ((k : Int) < (bl.length : Int)) = false := decide_eq_false (by omega)
            have hk3 : decide ((bl.length : Int) ≤ (k : Int)) = true := decide_eq_true (by omega)
            have hk7 : decide (k < bl.length) = false := decide_eq_false (by omega)
            have hk8 : decide (bl.length ≤ k) = true := decide_eq_true (by omega)
            have hk4 : (bl.length : Int) ≤ (k : Int) := by omega
            have HE : Kept (cs.map ChM.p = D) := ⟨by
              rw [← HDI.out, hdx, hdy, diffM_nil]; simp⟩
            clear HDI
            go_wp2_with fail
            go_ret
            exact ⟨A, c, cs, rfl, HE.out.trans HDF.out.symm, HI.out.2.1, HI.out.2.2, HI.out.1⟩
end Go.Proofs.Ytnmcclkpgbdenaa.Chg
