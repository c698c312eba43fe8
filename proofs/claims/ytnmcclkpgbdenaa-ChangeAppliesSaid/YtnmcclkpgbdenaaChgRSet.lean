/- Layer 50 (change): the document's set. (printed by tools/genrs.py) -/
import Derived.Test.YtnmcclkpgbdenaaSet27
import Derived.Test.YtnmcclkpgbdenaaSet21
import Derived.Test.YtnmcclkpgbdenaaSet13
import Derived.Test.YtnmcclkpgbdenaaAppTwo
import Derived.Deep.QuietTactic
import Derived.BigQuiet
import Derived.Deep.DeepCutAuto
import Derived.Deep.RegionLaw
import Derived.Deep.RegionHeld3
namespace Go.Proofs.Ytnmcclkpgbdenaa.Chg
open Go.RowKit Go.Proofs.Ytnmcclkpgbdenaa.Mem Go.Proofs.Ytnmcclkpgbdenaa.Card

/-- a call gives a card that is this one with another line of a field, or without one -/
def GivesS (w : World) (x : CardM) (z : LineM) (d : Bool) (en : Ending) (w' : World) : Prop := ∃ A c, en = .returned (CardM.val ⟨x.cid, A, setR z d x.ls, c⟩) ∧ lineE.Own w' w.heap.size 41 (.slice A (setR z d x.ls).length c) (setR z d x.ls) ∧ Below w.heap.size w w'
/-- the state of the walk: the variables, and the lines told so far -/
structure SS (w W : World) (x : CardM) (z : LineM) (A : Option Addr) (c : Nat) (ms : List LineM) : Prop where
  below : Below w.heap.size w W
  k3 : Blk W w.heap.size x.cells 38
  k4 : Blk W (w.heap.size + 1) z.cells 41
  k6 : Blk W (w.heap.size + 1 + 1) [.int .u64 0, .slice none 0 0] 38
  k7 : Blk W (w.heap.size + 1 + 1 + 1) [.int .u64 (x.cid : Int), .slice A ms.length c] 38
  own : lineE.Own W (w.heap.size + 4) 41 (.slice A ms.length c) ms
section
variable {w W W1 : World} {x : CardM} {z : LineM} {A A5 : Option Addr} {c c5 : Nat} {ms r5 : List LineM}
theorem SS.size (h : SS w W x z A c ms) : w.heap.size + 4 ≤ W.heap.size := by have := h.k7.lt; omega
theorem SS.drewN (h : SS w W x z A c ms) (q : Nat) : SS w (W.drewN q) x z A c ms := ⟨below_drewN h.below q, h.k3, h.k4, h.k6, h.k7, h.own⟩
theorem SS.more (h : SS w W x z A c ms) (hb : Below W.heap.size W W1) (ho : lineE.Own W1 W.heap.size 41 (.slice A5 r5.length c5) r5) : SS w (W1.setCell ⟨w.heap.size + 1 + 1 + 1, 1, none⟩ (.slice A5 r5.length c5)) x z A5 c5 r5 :=
  ⟨(h.below.trans (hb.mono h.below.size)).setCell (p := ⟨w.heap.size + 1 + 1 + 1, 1, none⟩) (by simp; omega) _, (h.k3.next hb).other (p := ⟨w.heap.size + 1 + 1 + 1, 1, none⟩) (by simp; omega) _, (h.k4.next hb).other (p := ⟨w.heap.size + 1 + 1 + 1, 1, none⟩) (by simp; omega) _,
    (h.k6.next hb).other (p := ⟨w.heap.size + 1 + 1 + 1, 1, none⟩) (by simp) _, (h.k7.next hb).set 1 _, (OwnK.low ho (p := ⟨w.heap.size + 1 + 1 + 1, 1, none⟩) (by have := h.size; simp; omega) _).mono h.size⟩
theorem setR_cons (z y : LineM) (d : Bool) (l : List LineM) : setR z d (y :: l) = (if !d && decide (z.f ≤ y.f) then [z] else []) ++ ((if y.f = z.f then [] else [y]) ++ setR z (d || decide (z.f ≤ y.f)) l) := by rw [setR, List.append_assoc]
end
set_option maxRecDepth 100000 in
set_option maxHeartbeats 8000000 in
theorem rset_any (x : CardM) (z : LineM) (d : Bool) (w : World) (hx : x.Ok w w.heap.size) (hz : z.Ok w w.heap.size) (hsz : x.ls.length ≤ 100000) :
    Calls Try.prog 80 #[x.val, z.val, .bool d] w (GivesS w x z d) := by
  obtain ⟨xcid, xX, xls, xc⟩ := x
  obtain ⟨zf, zt, zA, zm, zc⟩ := z
  have HX := kept hx
  have HZ := kept hz
  have HLE : Kept ((setR ⟨zf, zt, zA, zm, zc⟩ d xls).length ≤ xls.length + 1) := ⟨by have := setR_len ⟨zf, zt, zA, zm, zc⟩ d xls; cases d <;> simp at this <;> omega⟩
  have h0 : Below w.heap.size w ((((w.alloc (.cells #[.int .u64 (xcid : Int), .slice xX xls.length xc] 38)).alloc (.cells #[.int .u8 (zf : Int), .string zt, .slice zA zm.length zc] 41)).alloc (.cells #[.int .u64 0, .slice none 0 0] 38)).alloc (.cells #[.int .u64 (xcid : Int), .slice none 0 0] 38)) := ((((Below.refl _ _).alloc (Nat.le_refl _) _).alloc (by simp) _).alloc (by simp; omega) _).alloc (by simp; omega) _
  have HS0 : Kept (SS w ((((w.alloc (.cells #[.int .u64 (xcid : Int), .slice xX xls.length xc] 38)).alloc (.cells #[.int .u8 (zf : Int), .string zt, .slice zA zm.length zc] 41)).alloc (.cells #[.int .u64 0, .slice none 0 0] 38)).alloc (.cells #[.int .u64 (xcid : Int), .slice none 0 0] 38)) ⟨xcid, xX, xls, xc⟩ ⟨zf, zt, zA, zm, zc⟩ none 0 []) :=
    ⟨⟨h0, (((Blk.new w _ _).alloc _).alloc _).alloc _, ((Blk.newAt _ [.int .u8 (zf : Int), .string zt, .slice zA zm.length zc] _ (by simp)).alloc _).alloc _, (Blk.newAt _ _ _ (by simp)).alloc _, Blk.newAt _ _ _ (by simp), Elem.Own.nilv _ _ _ _⟩⟩
  clear h0 hx hz
  unfold CardM.val LineM.val
  dsimp only at *
  go_enter Try.func80, Try.ntmps80
  go_wp2_with fail
  go_loopw [8, 9] (fun s j wr => ∃ (b : Bool) (i : Nat) (A : Option Addr) (c : Nat) (ms : List LineM), i ≤ xls.length ∧ j = .int .i64 (i : Int) ∧ s = .bool b ∧ Kept (setR ⟨zf, zt, zA, zm, zc⟩ d xls = ms ++ setR ⟨zf, zt, zA, zm, zc⟩ b (xls.drop i)) ∧ Kept (SS w wr ⟨xcid, xX, xls, xc⟩ ⟨zf, zt, zA, zm, zc⟩ A c ms)) (fun _ j _ => xls.length - (intOf j).toNat)
  case atStart => exact ⟨d, 0, none, 0, [], Nat.zero_le _, rfl, rfl, ⟨rfl⟩, HS0⟩
  case round =>
    clear HS0
    obtain ⟨b, i, A, c, ms, hi, rfl, rfl, HR, HS⟩ := hrel
    have hml : ms.length ≤ xls.length + 1 := by have := HLE.out; rw [HR.out, List.length_append] at this; omega
    by_cases hlt : i < xls.length
    · obtain ⟨⟨yf, yt, yA, ym, yc⟩, hy⟩ : ∃ y, xls[i]? = some y := ⟨_, List.getElem?_eq_getElem hlt⟩
      obtain ⟨b1, o1, rfl, hbB, x0, x1, x2, -⟩ := HX.out.2.1.at_ hy
      have HYC : Kept (∀ W, Below w.heap.size w W → W.cell? ⟨b1, o1 + i * 3, none⟩ = some (.int .u8 (yf : Int)) ∧ W.cell? ⟨b1, o1 + i * 3 + 1, none⟩ = some (.string yt) ∧ W.cell? ⟨b1, o1 + i * 3 + 2, none⟩ = some (.slice yA ym.length yc)) := ⟨fun W hb => ⟨(hb.cell (p := ⟨b1, o1 + i * 3, none⟩) hbB).trans x0, (hb.cell (p := ⟨b1, o1 + i * 3 + 1, none⟩) hbB).trans x1, (hb.cell (p := ⟨b1, o1 + i * 3 + 2, none⟩) hbB).trans x2⟩⟩
      have hin : (i : Int) < (xls.length : Int) := by omega
      have hdr : xls.drop i = (⟨yf, yt, yA, ym, yc⟩ : LineM) :: xls.drop (i + 1) := by
        obtain ⟨e1, e2⟩ := List.getElem?_eq_some_iff.1 hy
        rw [List.drop_eq_getElem_cons e1, e2]
      have HRR : Kept (setR ⟨zf, zt, zA, zm, zc⟩ d xls = ms ++ ((if !b && decide (zf ≤ yf) then [(⟨zf, zt, zA, zm, zc⟩ : LineM)] else []) ++ ((if yf = zf then [] else [(⟨yf, yt, yA, ym, yc⟩ : LineM)]) ++ setR ⟨zf, zt, zA, zm, zc⟩ (b || decide (zf ≤ yf)) (xls.drop (i + 1))))) := ⟨by rw [HR.out, hdr, setR_cons]⟩
      have q3 : wr.cell? ⟨w.heap.size, 1, none⟩ = some (.slice (some ⟨b1, o1, none⟩) xls.length xc) := HS.out.k3.cell (j := 1) rfl
      have q4 : wr.cell? ⟨w.heap.size + 1, 0, none⟩ = some (.int .u8 (zf : Int)) := HS.out.k4.cell (j := 0) rfl
      obtain ⟨y0, -, -⟩ := HYC.out wr HS.out.below
      clear hy hdr HR x0 x1 x2
      go_upto_region 6 with fail
      have HQ := HS
      clear HS q3 q4 y0
      go_cut [33] (fun p wx => p = .bool (!b && decide (zf ≤ yf)) ∧ Kept (SS w wx ⟨xcid, some ⟨b1, o1, none⟩, xls, xc⟩ ⟨zf, zt, zA, zm, zc⟩ A c ms))
      case first =>
        cases b with
        | true =>
          have q3 : wr.cell? ⟨w.heap.size, 1, none⟩ = some (.slice (some ⟨b1, o1, none⟩) xls.length xc) := HQ.out.k3.cell (j := 1) rfl
          have q4 : wr.cell? ⟨w.heap.size + 1, 0, none⟩ = some (.int .u8 (zf : Int)) := HQ.out.k4.cell (j := 0) rfl
          obtain ⟨y0, -, -⟩ := HYC.out wr HQ.out.below
          go_wp2_with fail
          go_quiet (fail)
          have HQ2 := kept (HQ.out.drewN nq)
          clear HQ q3 q4 y0
          have HQ := HQ2
          clear HQ2
          generalize wr.drewN nq = wp at *
          go_wp2_with fail
          go_meet
          exact ⟨by simp [*], HQ⟩
        | false =>
          by_cases hge : zf ≤ yf
          · have hd : decide ((zf : Int) ≤ (yf : Int)) = true := decide_eq_true (by omega)
            have q3 : wr.cell? ⟨w.heap.size, 1, none⟩ = some (.slice (some ⟨b1, o1, none⟩) xls.length xc) := HQ.out.k3.cell (j := 1) rfl
            have q4 : wr.cell? ⟨w.heap.size + 1, 0, none⟩ = some (.int .u8 (zf : Int)) := HQ.out.k4.cell (j := 0) rfl
            obtain ⟨y0, -, -⟩ := HYC.out wr HQ.out.below
            go_wp2_with fail
            go_quiet (fail)
            have HQ2 := kept (HQ.out.drewN nq)
            clear HQ q3 q4 y0
            have HQ := HQ2
            clear HQ2
            generalize wr.drewN nq = wp at *
            go_wp2_with fail
            go_meet
            exact ⟨by simp [*], HQ⟩
          · have hd : decide ((zf : Int) ≤ (yf : Int)) = false := decide_eq_false (by omega)
            have q3 : wr.cell? ⟨w.heap.size, 1, none⟩ = some (.slice (some ⟨b1, o1, none⟩) xls.length xc) := HQ.out.k3.cell (j := 1) rfl
            have q4 : wr.cell? ⟨w.heap.size + 1, 0, none⟩ = some (.int .u8 (zf : Int)) := HQ.out.k4.cell (j := 0) rfl
            obtain ⟨y0, -, -⟩ := HYC.out wr HQ.out.below
            go_wp2_with fail
            go_quiet (fail)
            have HQ2 := kept (HQ.out.drewN nq)
            clear HQ q3 q4 y0
            have HQ := HQ2
            clear HQ2
            generalize wr.drewN nq = wp at *
            go_wp2_with fail
            go_meet
            exact ⟨by simp [*], HQ⟩
      case rest =>
        obtain ⟨rfl, HS⟩ := hcut
        obtain ⟨wr6, rfl⟩ : ∃ wv : World, wv = wc := ⟨_, rfl⟩
        have HRR : Kept (setR ⟨zf, zt, zA, zm, zc⟩ d xls = (ms ++ (if (!b && decide (zf ≤ yf)) = true then [(⟨zf, zt, zA, zm, zc⟩ : LineM)] else [])) ++ ((if yf = zf then [] else [(⟨yf, yt, yA, ym, yc⟩ : LineM)]) ++ setR ⟨zf, zt, zA, zm, zc⟩ (b || (!b && decide (zf ≤ yf))) (xls.drop (i + 1)))) := ⟨by rw [HRR.out]; cases b <;> simp⟩
        clear HQ
        have HQ := HS
        clear HS
        generalize (!b && decide (zf ≤ yf)) = t at *
        go_upto_if 33 with fail
        go_cut [8] (fun p wx => ∃ (b2 : Bool) (A : Option Addr) (c : Nat) (ms : List LineM), p = .bool b2 ∧ Kept (setR ⟨zf, zt, zA, zm, zc⟩ d xls = ms ++ ((if yf = zf then [] else [(⟨yf, yt, yA, ym, yc⟩ : LineM)]) ++ setR ⟨zf, zt, zA, zm, zc⟩ b2 (xls.drop (i + 1)))) ∧ Kept (SS w wx ⟨xcid, some ⟨b1, o1, none⟩, xls, xc⟩ ⟨zf, zt, zA, zm, zc⟩ A c ms))
        case first =>
          cases t with
          | false =>
            go_wp2_with fail
            go_meet
            exact ⟨b, A, c, ms, rfl, ⟨by rw [HRR.out]; simp⟩, HQ⟩
          | true =>
            obtain ⟨wq, rfl⟩ : ∃ wq : World, wq = wr6 := ⟨_, rfl⟩
            go_upto_region 7 with fail
            have HSB : Kept (∀ W, Below wq.heap.size wq W → W.cell? ⟨w.heap.size + 1, 0, none⟩ = some (.int .u8 (zf : Int)) ∧ W.cell? ⟨w.heap.size + 1, 1, none⟩ = some (.string zt) ∧ W.cell? ⟨w.heap.size + 1, 2, none⟩ = some (.slice zA zm.length zc) ∧ W.cell? ⟨w.heap.size + 1 + 1 + 1, 1, none⟩ = some (.slice A ms.length c) ∧ W.frozen? ⟨w.heap.size + 1 + 1 + 1, 1, none⟩ = false) := ⟨fun W hb => ⟨(HQ.out.k4.next hb).cell (j := 0) rfl, (HQ.out.k4.next hb).cell (j := 1) rfl, (HQ.out.k4.next hb).cell (j := 2) rfl, (HQ.out.k7.next hb).cell (j := 1) rfl, (HQ.out.k7.next hb).frozen 1⟩⟩
            have hR0 : lineE.Rd wq wq.heap.size A ms := HQ.out.own.rd
            have O1 := kept (two_o1 lineE 41 wq)
            have O2 := kept (two_o2 lineE 41 wq (.cells #[.int .u8 (zf : Int), .string zt, .slice zA zm.length zc] 41))
            have O3 := kept (two_o3 lineE 41 wq (.cells #[.int .u8 (zf : Int), .string zt, .slice zA zm.length zc] 41))
            have R1 := kept (hR0.alloc (Nat.le_refl _) (.cells #[] 41))
            have R2 := kept ((hR0.alloc (Nat.le_refl _) (.cells #[] 41)).alloc (by simp) (.cells #[.int .u8 (zf : Int), .string zt, .slice zA zm.length zc] 41))
            have R3 := kept ((hR0.alloc (Nat.le_refl _) (.cells #[.int .u8 (zf : Int), .string zt, .slice zA zm.length zc] 41)).alloc (by simp) (.cells #[] 41))
            have bw0 := Below.refl wq.heap.size wq
            obtain ⟨pa0, pa1, pa2, pa_o, pa_f⟩ := HSB.out _ bw0
            obtain ⟨pb0, pb1, pb2, pb_o, pb_f⟩ := HSB.out _ (bw0.alloc (Nat.le_refl _) (.cells #[] 41))
            obtain ⟨pc0, pc1, pc2, pc_o, pc_f⟩ := HSB.out _ (bw0.alloc (Nat.le_refl _) (.cells #[.int .u8 (zf : Int), .string zt, .slice zA zm.length zc] 41))
            obtain ⟨pd0, pd1, pd2, pd_o, pd_f⟩ := HSB.out _ ((bw0.alloc (Nat.le_refl _) (.cells #[] 41)).alloc (by simp) (.cells #[.int .u8 (zf : Int), .string zt, .slice zA zm.length zc] 41))
            obtain ⟨pe0, pe1, pe2, pe_o, pe_f⟩ := HSB.out _ ((bw0.alloc (Nat.le_refl _) (.cells #[.int .u8 (zf : Int), .string zt, .slice zA zm.length zc] 41)).alloc (by simp) (.cells #[] 41))
            have hz : (([] : List LineM).length + ms.length) * 48 ≤ 140737488355328 := by simp only [List.length_nil]; omega
            have HZ2 : Kept (∀ r2 : List LineM, Kept (r2 = [] ++ ms) → (r2.length + [(⟨zf, zt, zA, zm, zc⟩ : LineM)].length) * 48 ≤ 140737488355328) := ⟨fun r2 h => by rw [h.out, List.nil_append, List.length_singleton]; omega⟩
            clear hR0 bw0
            have T1 := fun (w2 : World) (A2 : Option Addr) (c2 : Nat) (r2 : List LineM) => two_1 (E := lineE) (e := 41) (wr := wq) (w2 := w2) (A2 := A2) (c2 := c2) (r2 := r2) ⟨zf, zt, zA, zm, zc⟩
            have T2 := fun (w2 : World) => two_2 (E := lineE) (e := 41) (wr := wq) (w2 := w2) ⟨zf, zt, zA, zm, zc⟩
            have T3 := fun (w2 : World) => two_3 (E := lineE) (e := 41) (wr := wq) (w2 := w2) ⟨zf, zt, zA, zm, zc⟩
            rw [show lineE.g ⟨zf, zt, zA, zm, zc⟩ = [.int .u8 (zf : Int), .string zt, .slice zA zm.length zc] from rfl] at T1 T2 T3
            have T1 := kept T1
            have T2 := kept T2
            have T3 := kept T3
            go_region_law (first
                | (refine step_appEU _ lineE (by rfl) (.tmp 34) (.tmp 36) 36 (by rfl) wq.heap.size 41 Try.underlying36 line_info (by rfl) _ [] (by rfl) O1.out _ A _ c ms (by rfl) rfl R1.out hz (by decide) (by simp) ?_; intro A2 c2 w2 r2 hr2 hown2 hu2 hx2; obtain ⟨HB2, HBA, HOG, HRG, HSA⟩ := T1.out _ _ _ _ hown2 hu2; clear hown2 hu2 hx2; have hz2 := HZ2.out r2 hr2; obtain ⟨da0, da1, da2, da_o, da_f⟩ := HSB.out w2 HB2)
                | (refine step_appEU _ lineE (by rfl) (.tmp 34) (.tmp 36) 36 (by rfl) wq.heap.size 41 Try.underlying36 line_info (by rfl) _ [] (by rfl) O2.out _ A _ c ms (by rfl) rfl R2.out hz (by decide) (by simp; omega) ?_; intro A2 c2 w2 r2 hr2 hown2 hu2 hx2; obtain ⟨HB2, HRG⟩ := T2.out _ hu2; have HBA := HB2; have HOG := hown2; have HSA := HB2.size; clear hu2 hx2; have hz2 := HZ2.out r2 hr2; obtain ⟨da0, da1, da2, da_o, da_f⟩ := HSB.out w2 HB2)
                | (refine step_appEU _ lineE (by rfl) (.tmp 34) (.tmp 36) 36 (by rfl) wq.heap.size 41 Try.underlying36 line_info (by rfl) _ [] (by rfl) O3.out _ A _ c ms (by rfl) rfl R3.out hz (by decide) (by simp; omega) ?_; intro A2 c2 w2 r2 hr2 hown2 hu2 hx2; obtain ⟨HB2, HRG⟩ := T3.out _ hu2; have HBA := HB2; have HOG := hown2; have HSA := HB2.size; clear hu2 hx2; have hz2 := HZ2.out r2 hr2; obtain ⟨da0, da1, da2, da_o, da_f⟩ := HSB.out w2 HB2)
                | (refine step_appEU _ lineE (by rfl) (.tmp 37) (.tmp 39) 36 (by rfl) wq.heap.size 41 Try.underlying36 line_info (by rfl) _ r2 (by rfl) HOG _ _ _ _ [⟨zf, zt, zA, zm, zc⟩] (by rfl) rfl HRG hz2 (by decide) HSA ?_; intro A5 c5 w5 r5 hr5 hown5 hu5 hx5; have HB5 : Below wq.heap.size wq w5 := two_below HBA HOG hu5; obtain ⟨ea0, ea1, ea2, ea_o, ea_f⟩ := HSB.out w5 HB5; have hown5b := hown5; clear hu5 hx5))
            all_goals
              have hrq : r5 = ms ++ [⟨zf, zt, zA, zm, zc⟩] := by rw [hr5.out, hr2.out]; simp
              have HN5 : Kept (r5 = ms ++ [⟨zf, zt, zA, zm, zc⟩] ∧ SS w (w5.setCell ⟨w.heap.size + 1 + 1 + 1, 1, none⟩ (.slice A5 r5.length c5)) _ _ A5 c5 r5) := ⟨hrq, HQ.out.more HB5 hown5b⟩
              clear hrq hr5 hr2
              have HR6 : Kept (setR ⟨zf, zt, zA, zm, zc⟩ d xls = r5 ++ ((if yf = zf then [] else [(⟨yf, yt, yA, ym, yc⟩ : LineM)]) ++ setR ⟨zf, zt, zA, zm, zc⟩ true (xls.drop (i + 1)))) := ⟨by rw [HRR.out, HN5.out.1]; simp⟩
              go_wp2_with fail
              go_meet
              exact ⟨true, A5, c5, r5, rfl, HR6, ⟨HN5.out.2⟩⟩
        case rest =>
          obtain ⟨b2, A5, c5, r5, rfl, HRR2, HS⟩ := hcut
          obtain ⟨wv, rfl⟩ : ∃ wv : World, wv = wc := ⟨_, rfl⟩
          have hml5 : r5.length ≤ xls.length + 1 := by have := HLE.out; rw [HRR2.out, List.length_append] at this; omega
          clear HRR HQ hml
          have HRR := HRR2
          have HQ := HS
          clear HRR2 HS
          go_upto_region 9 with fail
          by_cases he : yf = zf
          · have e1 : ((yf : Int) == (zf : Int)) = true := by rw [beq_iff_eq]; omega
            have q3 : wv.cell? ⟨w.heap.size, 1, none⟩ = some (.slice (some ⟨b1, o1, none⟩) xls.length xc) := HQ.out.k3.cell (j := 1) rfl
            have q4 : wv.cell? ⟨w.heap.size + 1, 0, none⟩ = some (.int .u8 (zf : Int)) := HQ.out.k4.cell (j := 0) rfl
            obtain ⟨y0, -, -⟩ := HYC.out wv HQ.out.below
            go_wp2_with fail
            go_quiet (fail)
            have HQ2 := kept (HQ.out.drewN nq)
            clear HQ q3 q4 y0
            have HQ := HQ2
            clear HQ2
            generalize wv.drewN nq = wq at *
            clear e1
            go_wp2_with fail
            go_roundw
            case rel => exact ⟨b2, i + 1, A5, c5, r5, by omega, by go_num, rfl, ⟨by rw [HRR.out, if_pos he, List.nil_append]⟩, HQ⟩
            case measure => simp [intOf]; omega
          · have hne : ¬ yf = zf := he
            have e1 : ((yf : Int) == (zf : Int)) = false := by rw [beq_eq_false_iff_ne]; omega
            have q3 : wv.cell? ⟨w.heap.size, 1, none⟩ = some (.slice (some ⟨b1, o1, none⟩) xls.length xc) := HQ.out.k3.cell (j := 1) rfl
            have q4 : wv.cell? ⟨w.heap.size + 1, 0, none⟩ = some (.int .u8 (zf : Int)) := HQ.out.k4.cell (j := 0) rfl
            obtain ⟨y0, -, -⟩ := HYC.out wv HQ.out.below
            go_wp2_with fail
            go_quiet (fail)
            have HQ2 := kept (HQ.out.drewN nq)
            clear HQ q3 q4 y0
            have HQ := HQ2
            clear HQ2
            generalize wv.drewN nq = wq at *
            clear e1
            go_upto_region 10 with fail
            have HSB : Kept (∀ W, Below wq.heap.size wq W → W.cell? ⟨w.heap.size, 1, none⟩ = some (.slice (some ⟨b1, o1, none⟩) xls.length xc) ∧ W.cell? ⟨b1, o1 + i * 3, none⟩ = some (.int .u8 (yf : Int)) ∧ W.cell? ⟨b1, o1 + i * 3 + 1, none⟩ = some (.string yt) ∧ W.cell? ⟨b1, o1 + i * 3 + 2, none⟩ = some (.slice yA ym.length yc) ∧ W.cell? ⟨w.heap.size + 1 + 1 + 1, 1, none⟩ = some (.slice A5 r5.length c5) ∧ W.frozen? ⟨w.heap.size + 1 + 1 + 1, 1, none⟩ = false) := ⟨fun W hb => by
                obtain ⟨e0, e1, e2⟩ := HYC.out W (HQ.out.below.trans (hb.mono HQ.out.below.size))
                exact ⟨(HQ.out.k3.next hb).cell (j := 1) rfl, e0, e1, e2, (HQ.out.k7.next hb).cell (j := 1) rfl, (HQ.out.k7.next hb).frozen 1⟩⟩
            have hR0 : lineE.Rd wq wq.heap.size A5 r5 := HQ.out.own.rd
            have O1 := kept (two_o1 lineE 41 wq)
            have O2 := kept (two_o2 lineE 41 wq (.cells #[.int .u8 (yf : Int), .string yt, .slice yA ym.length yc] 41))
            have O3 := kept (two_o3 lineE 41 wq (.cells #[.int .u8 (yf : Int), .string yt, .slice yA ym.length yc] 41))
            have R1 := kept (hR0.alloc (Nat.le_refl _) (.cells #[] 41))
            have R2 := kept ((hR0.alloc (Nat.le_refl _) (.cells #[] 41)).alloc (by simp) (.cells #[.int .u8 (yf : Int), .string yt, .slice yA ym.length yc] 41))
            have R3 := kept ((hR0.alloc (Nat.le_refl _) (.cells #[.int .u8 (yf : Int), .string yt, .slice yA ym.length yc] 41)).alloc (by simp) (.cells #[] 41))
            have bw0 := Below.refl wq.heap.size wq
            obtain ⟨pa0, pa1, pa2, pa3, pa_o, pa_f⟩ := HSB.out _ bw0
            obtain ⟨pb0, pb1, pb2, pb3, pb_o, pb_f⟩ := HSB.out _ (bw0.alloc (Nat.le_refl _) (.cells #[] 41))
            obtain ⟨pc0, pc1, pc2, pc3, pc_o, pc_f⟩ := HSB.out _ (bw0.alloc (Nat.le_refl _) (.cells #[.int .u8 (yf : Int), .string yt, .slice yA ym.length yc] 41))
            obtain ⟨pd0, pd1, pd2, pd3, pd_o, pd_f⟩ := HSB.out _ ((bw0.alloc (Nat.le_refl _) (.cells #[] 41)).alloc (by simp) (.cells #[.int .u8 (yf : Int), .string yt, .slice yA ym.length yc] 41))
            obtain ⟨pe0, pe1, pe2, pe3, pe_o, pe_f⟩ := HSB.out _ ((bw0.alloc (Nat.le_refl _) (.cells #[.int .u8 (yf : Int), .string yt, .slice yA ym.length yc] 41)).alloc (by simp) (.cells #[] 41))
            have hz : (([] : List LineM).length + r5.length) * 48 ≤ 140737488355328 := by simp only [List.length_nil]; omega
            have HZ2 : Kept (∀ r2 : List LineM, Kept (r2 = [] ++ r5) → (r2.length + [(⟨yf, yt, yA, ym, yc⟩ : LineM)].length) * 48 ≤ 140737488355328) := ⟨fun r2 h => by rw [h.out, List.nil_append, List.length_singleton]; omega⟩
            clear hR0 bw0
            have T1 := fun (w2 : World) (A2 : Option Addr) (c2 : Nat) (r2 : List LineM) => two_1 (E := lineE) (e := 41) (wr := wq) (w2 := w2) (A2 := A2) (c2 := c2) (r2 := r2) ⟨yf, yt, yA, ym, yc⟩
            have T2 := fun (w2 : World) => two_2 (E := lineE) (e := 41) (wr := wq) (w2 := w2) ⟨yf, yt, yA, ym, yc⟩
            have T3 := fun (w2 : World) => two_3 (E := lineE) (e := 41) (wr := wq) (w2 := w2) ⟨yf, yt, yA, ym, yc⟩
            rw [show lineE.g ⟨yf, yt, yA, ym, yc⟩ = [.int .u8 (yf : Int), .string yt, .slice yA ym.length yc] from rfl] at T1 T2 T3
            have T1 := kept T1
            have T2 := kept T2
            have T3 := kept T3
            go_region_law (first
                | (refine step_appEU _ lineE (by rfl) (.tmp 51) (.tmp 53) 36 (by rfl) wq.heap.size 41 Try.underlying36 line_info (by rfl) _ [] (by rfl) O1.out _ A5 _ c5 r5 (by rfl) rfl R1.out hz (by decide) (by simp) ?_; intro A2 c2 w2 r2 hr2 hown2 hu2 hx2; obtain ⟨HB2, HBA, HOG, HRG, HSA⟩ := T1.out _ _ _ _ hown2 hu2; clear hown2 hu2 hx2; have hz2 := HZ2.out r2 hr2; obtain ⟨da0, da1, da2, da3, da_o, da_f⟩ := HSB.out w2 HB2)
                | (refine step_appEU _ lineE (by rfl) (.tmp 51) (.tmp 53) 36 (by rfl) wq.heap.size 41 Try.underlying36 line_info (by rfl) _ [] (by rfl) O2.out _ A5 _ c5 r5 (by rfl) rfl R2.out hz (by decide) (by simp; omega) ?_; intro A2 c2 w2 r2 hr2 hown2 hu2 hx2; obtain ⟨HB2, HRG⟩ := T2.out _ hu2; have HBA := HB2; have HOG := hown2; have HSA := HB2.size; clear hu2 hx2; have hz2 := HZ2.out r2 hr2; obtain ⟨da0, da1, da2, da3, da_o, da_f⟩ := HSB.out w2 HB2)
                | (refine step_appEU _ lineE (by rfl) (.tmp 51) (.tmp 53) 36 (by rfl) wq.heap.size 41 Try.underlying36 line_info (by rfl) _ [] (by rfl) O3.out _ A5 _ c5 r5 (by rfl) rfl R3.out hz (by decide) (by simp; omega) ?_; intro A2 c2 w2 r2 hr2 hown2 hu2 hx2; obtain ⟨HB2, HRG⟩ := T3.out _ hu2; have HBA := HB2; have HOG := hown2; have HSA := HB2.size; clear hu2 hx2; have hz2 := HZ2.out r2 hr2; obtain ⟨da0, da1, da2, da3, da_o, da_f⟩ := HSB.out w2 HB2)
                | (refine step_appEU _ lineE (by rfl) (.tmp 54) (.tmp 60) 36 (by rfl) wq.heap.size 41 Try.underlying36 line_info (by rfl) _ r2 (by rfl) HOG _ _ _ _ [⟨yf, yt, yA, ym, yc⟩] (by rfl) rfl HRG hz2 (by decide) HSA ?_; intro A6 c6 w5 r6 hr6 hown5 hu5 hx5; have HB5 : Below wq.heap.size wq w5 := two_below HBA HOG hu5; obtain ⟨ea0, ea1, ea2, ea3, ea_o, ea_f⟩ := HSB.out w5 HB5; have hown5b := hown5; clear hu5 hx5))
            all_goals
              have hrq : r6 = r5 ++ [⟨yf, yt, yA, ym, yc⟩] := by rw [hr6.out, hr2.out]; simp
              have HN5 : Kept (r6 = r5 ++ [⟨yf, yt, yA, ym, yc⟩] ∧ SS w (w5.setCell ⟨w.heap.size + 1 + 1 + 1, 1, none⟩ (.slice A6 r6.length c6)) _ _ A6 c6 r6) := ⟨hrq, HQ.out.more HB5 hown5b⟩
              clear hrq hr6 hr2
              have HR6 : Kept (setR ⟨zf, zt, zA, zm, zc⟩ d xls = r6 ++ setR ⟨zf, zt, zA, zm, zc⟩ b2 (xls.drop (i + 1))) := ⟨by rw [HRR.out, if_neg hne, HN5.out.1]; simp⟩
              go_wp2_with fail
            all_goals go_roundw
            all_goals first | exact ⟨b2, i + 1, A6, c6, r6, by omega, by go_num, rfl, HR6, ⟨HN5.out.2⟩⟩ | (simp [intOf]; omega)
    · obtain rfl : i = xls.length := by omega
      rw [List.drop_length] at HR
      have HQ := HS
      clear HS
      cases b with
      | true =>
        have HRF : Kept (setR ⟨zf, zt, zA, zm, zc⟩ d xls = ms) := ⟨by rw [HR.out]; simp [setR]⟩
        have q3 : wr.cell? ⟨w.heap.size, 1, none⟩ = some (.slice xX xls.length xc) := HQ.out.k3.cell (j := 1) rfl
        have k7 := HQ.out.k7
        have k6 := HQ.out.k6
        have q0 := k7.cell (j := 0) rfl
        have q1 := k7.cell (j := 1) rfl
        go_wp2_with (refine wpl_storeB rfl _ _ _ rfl (w.heap.size + 1 + 1) [.int .u64 (xcid : Int), .slice A ms.length c] rfl rfl _ _ k6 rfl rfl rfl ?_; intro w9 hk9 hu9)
        have hsz := HQ.out.size
        refine bodyPost_ret (res_cell_one Try.results80 _ (w.heap.size + 1 + 1) _ _ _ rfl hk9 Try.underlying38 rfl rfl) rfl ⟨A, c, ?_, ?_, HQ.out.below.trans (hu9.below (by omega) fun k _ e => by omega)⟩
        · show _ = Ending.returned (CardM.val ⟨xcid, A, setR ⟨zf, zt, zA, zm, zc⟩ d xls, c⟩)
          rw [HRF.out]; rfl
        · show lineE.Own w9 w.heap.size _ (.slice A (setR ⟨zf, zt, zA, zm, zc⟩ d xls).length c) (setR ⟨zf, zt, zA, zm, zc⟩ d xls)
          rw [HRF.out]
          exact (HQ.out.own.upd hu9 fun k hk e => by have := (OwnK.under HQ.out.own k hk).1; omega).mono (by omega)
      | false =>
        have q3 : wr.cell? ⟨w.heap.size, 1, none⟩ = some (.slice xX xls.length xc) := HQ.out.k3.cell (j := 1) rfl
        go_upto_region 12 with fail
        clear q3
        obtain ⟨wq, rfl⟩ : ∃ wq : World, wq = wr := ⟨_, rfl⟩
        have HSB : Kept (∀ W, Below wq.heap.size wq W → W.cell? ⟨w.heap.size + 1, 0, none⟩ = some (.int .u8 (zf : Int)) ∧ W.cell? ⟨w.heap.size + 1, 1, none⟩ = some (.string zt) ∧ W.cell? ⟨w.heap.size + 1, 2, none⟩ = some (.slice zA zm.length zc) ∧ W.cell? ⟨w.heap.size + 1 + 1 + 1, 1, none⟩ = some (.slice A ms.length c) ∧ W.frozen? ⟨w.heap.size + 1 + 1 + 1, 1, none⟩ = false) := ⟨fun W hb => ⟨(HQ.out.k4.next hb).cell (j := 0) rfl, (HQ.out.k4.next hb).cell (j := 1) rfl, (HQ.out.k4.next hb).cell (j := 2) rfl, (HQ.out.k7.next hb).cell (j := 1) rfl, (HQ.out.k7.next hb).frozen 1⟩⟩
        have hR0 : lineE.Rd wq wq.heap.size A ms := HQ.out.own.rd
        have O1 := kept (two_o1 lineE 41 wq)
        have O2 := kept (two_o2 lineE 41 wq (.cells #[.int .u8 (zf : Int), .string zt, .slice zA zm.length zc] 41))
        have O3 := kept (two_o3 lineE 41 wq (.cells #[.int .u8 (zf : Int), .string zt, .slice zA zm.length zc] 41))
        have R1 := kept (hR0.alloc (Nat.le_refl _) (.cells #[] 41))
        have R2 := kept ((hR0.alloc (Nat.le_refl _) (.cells #[] 41)).alloc (by simp) (.cells #[.int .u8 (zf : Int), .string zt, .slice zA zm.length zc] 41))
        have R3 := kept ((hR0.alloc (Nat.le_refl _) (.cells #[.int .u8 (zf : Int), .string zt, .slice zA zm.length zc] 41)).alloc (by simp) (.cells #[] 41))
        have bw0 := Below.refl wq.heap.size wq
        obtain ⟨pa0, pa1, pa2, pa_o, pa_f⟩ := HSB.out _ bw0
        obtain ⟨pb0, pb1, pb2, pb_o, pb_f⟩ := HSB.out _ (bw0.alloc (Nat.le_refl _) (.cells #[] 41))
        obtain ⟨pc0, pc1, pc2, pc_o, pc_f⟩ := HSB.out _ (bw0.alloc (Nat.le_refl _) (.cells #[.int .u8 (zf : Int), .string zt, .slice zA zm.length zc] 41))
        obtain ⟨pd0, pd1, pd2, pd_o, pd_f⟩ := HSB.out _ ((bw0.alloc (Nat.le_refl _) (.cells #[] 41)).alloc (by simp) (.cells #[.int .u8 (zf : Int), .string zt, .slice zA zm.length zc] 41))
        obtain ⟨pe0, pe1, pe2, pe_o, pe_f⟩ := HSB.out _ ((bw0.alloc (Nat.le_refl _) (.cells #[.int .u8 (zf : Int), .string zt, .slice zA zm.length zc] 41)).alloc (by simp) (.cells #[] 41))
        have hz : (([] : List LineM).length + ms.length) * 48 ≤ 140737488355328 := by simp only [List.length_nil]; omega
        have HZ2 : Kept (∀ r2 : List LineM, Kept (r2 = [] ++ ms) → (r2.length + [(⟨zf, zt, zA, zm, zc⟩ : LineM)].length) * 48 ≤ 140737488355328) := ⟨fun r2 h => by rw [h.out, List.nil_append, List.length_singleton]; omega⟩
        clear hR0 bw0
        have T1 := fun (w2 : World) (A2 : Option Addr) (c2 : Nat) (r2 : List LineM) => two_1 (E := lineE) (e := 41) (wr := wq) (w2 := w2) (A2 := A2) (c2 := c2) (r2 := r2) ⟨zf, zt, zA, zm, zc⟩
        have T2 := fun (w2 : World) => two_2 (E := lineE) (e := 41) (wr := wq) (w2 := w2) ⟨zf, zt, zA, zm, zc⟩
        have T3 := fun (w2 : World) => two_3 (E := lineE) (e := 41) (wr := wq) (w2 := w2) ⟨zf, zt, zA, zm, zc⟩
        rw [show lineE.g ⟨zf, zt, zA, zm, zc⟩ = [.int .u8 (zf : Int), .string zt, .slice zA zm.length zc] from rfl] at T1 T2 T3
        have T1 := kept T1
        have T2 := kept T2
        have T3 := kept T3
        go_region_law (first
            | (refine step_appEU _ lineE (by rfl) (.tmp 65) (.tmp 67) 36 (by rfl) wq.heap.size 41 Try.underlying36 line_info (by rfl) _ [] (by rfl) O1.out _ A _ c ms (by rfl) rfl R1.out hz (by decide) (by simp) ?_; intro A2 c2 w2 r2 hr2 hown2 hu2 hx2; obtain ⟨HB2, HBA, HOG, HRG, HSA⟩ := T1.out _ _ _ _ hown2 hu2; clear hown2 hu2 hx2; have hz2 := HZ2.out r2 hr2; obtain ⟨da0, da1, da2, da_o, da_f⟩ := HSB.out w2 HB2)
            | (refine step_appEU _ lineE (by rfl) (.tmp 65) (.tmp 67) 36 (by rfl) wq.heap.size 41 Try.underlying36 line_info (by rfl) _ [] (by rfl) O2.out _ A _ c ms (by rfl) rfl R2.out hz (by decide) (by simp; omega) ?_; intro A2 c2 w2 r2 hr2 hown2 hu2 hx2; obtain ⟨HB2, HRG⟩ := T2.out _ hu2; have HBA := HB2; have HOG := hown2; have HSA := HB2.size; clear hu2 hx2; have hz2 := HZ2.out r2 hr2; obtain ⟨da0, da1, da2, da_o, da_f⟩ := HSB.out w2 HB2)
            | (refine step_appEU _ lineE (by rfl) (.tmp 65) (.tmp 67) 36 (by rfl) wq.heap.size 41 Try.underlying36 line_info (by rfl) _ [] (by rfl) O3.out _ A _ c ms (by rfl) rfl R3.out hz (by decide) (by simp; omega) ?_; intro A2 c2 w2 r2 hr2 hown2 hu2 hx2; obtain ⟨HB2, HRG⟩ := T3.out _ hu2; have HBA := HB2; have HOG := hown2; have HSA := HB2.size; clear hu2 hx2; have hz2 := HZ2.out r2 hr2; obtain ⟨da0, da1, da2, da_o, da_f⟩ := HSB.out w2 HB2)
            | (refine step_appEU _ lineE (by rfl) (.tmp 68) (.tmp 70) 36 (by rfl) wq.heap.size 41 Try.underlying36 line_info (by rfl) _ r2 (by rfl) HOG _ _ _ _ [⟨zf, zt, zA, zm, zc⟩] (by rfl) rfl HRG hz2 (by decide) HSA ?_; intro A5 c5 w5 r5 hr5 hown5 hu5 hx5; have HB5 : Below wq.heap.size wq w5 := two_below HBA HOG hu5; obtain ⟨ea0, ea1, ea2, ea_o, ea_f⟩ := HSB.out w5 HB5; have hown5b := hown5; clear hu5 hx5))
        all_goals
          have hrq : r5 = ms ++ [⟨zf, zt, zA, zm, zc⟩] := by rw [hr5.out, hr2.out]; simp
          have HN5 : Kept (r5 = ms ++ [⟨zf, zt, zA, zm, zc⟩] ∧ SS w (w5.setCell ⟨w.heap.size + 1 + 1 + 1, 1, none⟩ (.slice A5 r5.length c5)) _ _ A5 c5 r5) := ⟨hrq, HQ.out.more HB5 hown5b⟩
          clear hrq hr5 hr2
          have HRF : Kept (setR ⟨zf, zt, zA, zm, zc⟩ d xls = r5) := ⟨by rw [HR.out, HN5.out.1]; rfl⟩
          have hl5 : r5.length ≤ xls.length + 1 := by rw [← HRF.out]; exact HLE.out
          have HQ2 := kept HN5.out.2
          clear HQ HN5
          have HQ := HQ2
          clear HQ2
          go_upto_region 13 with fail
          generalize w5.setCell ⟨w.heap.size + 1 + 1 + 1, 1, none⟩ (.slice A5 r5.length c5) = w6 at *
          have k7 := HQ.out.k7
          have k6 := HQ.out.k6
          have q0 := k7.cell (j := 0) rfl
          have q1 := k7.cell (j := 1) rfl
          go_wp2_with (refine wpl_storeB rfl _ _ _ rfl (w.heap.size + 1 + 1) [.int .u64 (xcid : Int), .slice A5 r5.length c5] rfl rfl _ _ k6 rfl rfl rfl ?_; intro w9 hk9 hu9)
          have hsz := HQ.out.size
          refine bodyPost_ret (res_cell_one Try.results80 _ (w.heap.size + 1 + 1) _ _ _ rfl hk9 Try.underlying38 rfl rfl) rfl ⟨A5, c5, ?_, ?_, HQ.out.below.trans (hu9.below (by omega) fun k _ e => by omega)⟩
          · show _ = Ending.returned (CardM.val ⟨xcid, A5, setR ⟨zf, zt, zA, zm, zc⟩ d xls, c5⟩)
            rw [HRF.out]; rfl
          · show lineE.Own w9 w.heap.size _ (.slice A5 (setR ⟨zf, zt, zA, zm, zc⟩ d xls).length c5) (setR ⟨zf, zt, zA, zm, zc⟩ d xls)
            rw [HRF.out]
            exact (HQ.out.own.upd hu9 fun k hk e => by have := (OwnK.under HQ.out.own k hk).1; omega).mono (by omega)
end Go.Proofs.Ytnmcclkpgbdenaa.Chg
