/- Layer 36 (net): the document's Twice, Spoil. -/
import Derived.Test.YtpckfnafcmifpaaNetRef
namespace Go.Proofs.Ytpckfnafcmifpaa.Net
open Go.RowKit Go.Proofs.Ytpckfnafcmifpaa.Mem

theorem rat_i {ys : List OneM} {pick : Int} {x : OneM} (hx : ys[(atI ys.length pick).toNat]? = some x) : ∃ i : Nat, atI ys.length pick = (i : Int) ∧ i < ys.length ∧ ys[i]? = some x := by
  have hlt := (List.getElem?_eq_some_iff.1 hx).1
  obtain ⟨h1, h2⟩ := at_range pick (show 0 < ys.length by omega)
  refine ⟨(atI ys.length pick).toNat, by omega, by omega, hx⟩
theorem rtwice_no (X : Option Addr) (c : Nat) (pick : Int) (w : World) : Calls Try.prog 28 #[.slice X 0 c, .int .i64 pick] w fun e w' => e = .returned (.tuple #[.slice X 0 c, .int .i64 6]) ∧ w = w' := by
  have C := kept (rat_any X 0 c pick w (by decide))
  rw [show atI 0 pick = -1 from rfl] at C
  go_enter Try.func28, Try.ntmps28
  go_wp2_with fail
  refine C.out.mono ?_
  rintro e w' ⟨rfl, hw⟩
  subst hw
  go_wp2
  go_ret2
  exact ⟨rfl, rfl⟩
set_option maxRecDepth 100000 in
theorem rtwice_full (X : Option Addr) (c : Nat) (ys : List OneM) (pick : Int) (x : OneM) (w : World) (h : ys.length = 512) (hr : oneE.Rd w w.heap.size X ys) (hx : ys[(atI ys.length pick).toNat]? = some x) :
    Calls Try.prog 28 #[.slice X ys.length c, .int .i64 pick] w fun e w' => e = .returned (.tuple #[.slice X ys.length c, .int .i64 8]) ∧ Below w.heap.size w w' := by
  obtain ⟨i, hi, hil, hxi⟩ := rat_i hx
  have C := kept (rat_any X ys.length c pick w (by omega))
  rw [hi] at C
  obtain ⟨b, o, rfl, hbb, hc⟩ := hr.at_ hxi
  obtain ⟨tt, xA, xb, xc, bad⟩ := x
  have c0 : w.cell? ⟨b, o + i * 3, none⟩ = some (.int .i64 tt) := hc 0 _ rfl
  have c1 : w.cell? ⟨b, o + i * 3 + 1, none⟩ = some (.slice xA xb.length xc) := hc 1 _ rfl
  have CS := kept (fun W => rsend_full (some ⟨b, o, none⟩) ys.length c tt xA xb.length xc W (by omega) (by omega))
  have hi2 : (i : Int) < (ys.length : Int) := by omega
  have hi3 : (0 : Int) ≤ (i : Int) := by omega
  clear hr hx hxi hc hi h
  go_enter Try.func28, Try.ntmps28
  go_wp2_with fail
  refine C.out.mono ?_
  rintro e w' ⟨rfl, hw⟩
  subst hw
  go_wp2_with fail
  go_region_with (go_at_call 24; refine (CS.out _).mono ?_; rintro en w2 ⟨rfl, hw2⟩)
  all_goals
    subst hw2
    go_wp2
    go_ret2
    exact ⟨rfl, (Below.refl _ _).drew⟩
set_option maxRecDepth 100000 in
set_option maxHeartbeats 4000000 in
theorem rtwice_yes (X : Option Addr) (c : Nat) (ys : List OneM) (pick : Int) (x : OneM) (w : World) (h : ys.length < 512) (hr : oneE.Rd w w.heap.size X ys) (hx : ys[(atI ys.length pick).toNat]? = some x) :
    Calls Try.prog 28 #[.slice X ys.length c, .int .i64 pick] w fun e w' => ∃ v, e = .returned (.tuple #[v, .int .i64 0]) ∧ RNew w (ys ++ [x]) v w' := by
  obtain ⟨i, hi, hil, hxi⟩ := rat_i hx
  have C := kept (rat_any X ys.length c pick w (by omega))
  rw [hi] at C
  have HR := kept hr
  obtain ⟨b, o, rfl, hbb, hc⟩ := hr.at_ hxi
  obtain ⟨tt, xA, xb, xc, bad⟩ := x
  have c0 : w.cell? ⟨b, o + i * 3, none⟩ = some (.int .i64 tt) := hc 0 _ rfl
  have c1 : w.cell? ⟨b, o + i * 3 + 1, none⟩ = some (.slice xA xb.length xc) := hc 1 _ rfl
  have c2 : w.cell? ⟨b, o + i * 3 + 2, none⟩ = some (.bool bad) := hc 2 _ rfl
  have CS := kept (fun W (hb : Below w.heap.size w W) => rsend_yes (some ⟨b, o, none⟩) c ys tt xA xb xc W h (hr.next hb))
  have hbd : Below w.heap.size w w.drew := (Below.refl _ _).drew
  have hi2 : (i : Int) < (ys.length : Int) := by omega
  have hi3 : (0 : Int) ≤ (i : Int) := by omega
  clear hr hx hxi hc hi
  go_enter Try.func28, Try.ntmps28
  go_wp2_with fail
  refine C.out.mono ?_
  rintro e w' ⟨rfl, hw⟩
  subst hw
  go_upto_region 4 with fail
  go_cut [7, 8] (fun v e wx => e = .int .i64 0 ∧ ∃ X2 c2, v = .slice X2 (ys.length + 1) c2 ∧ Kept (oneE.Own wx w.heap.size 61 (.slice X2 (ys.length + 1) c2) (ys ++ [⟨tt, xA, xb, xc, false⟩]) ∧ Below w.heap.size w wx))
  case first =>
    go_region_with (go_at_call 24; refine (CS.out _ (by assumption)).mono ?_; rintro en w2 ⟨v, rfl, X2, cc2, rfl, ho2, hb2⟩; have HO2 := kept ho2; have HB2 := kept (hbd.trans (hb2.mono hbd.size)); clear ho2 hb2)
    all_goals (go_wp2; go_meet)
    all_goals exact ⟨rfl, X2, cc2, by simp, ⟨by have := HO2.out; simpa using this, HB2.out⟩⟩
  case rest =>
    obtain ⟨rfl, X2, cc2, rfl, HN⟩ := hcut
    obtain ⟨ho2, hb2⟩ := HN.out
    obtain ⟨w2, rfl⟩ : ∃ w2 : World, w2 = wc := ⟨_, rfl⟩
    have hxn : (ys ++ [(⟨tt, xA, xb, xc, false⟩ : OneM)])[ys.length]? = some ⟨tt, xA, xb, xc, false⟩ := by simp
    obtain ⟨r, rfl, hrb, hrl, d2, f2, hst⟩ := ho2.spot (j := 2) hxn rfl
    have hfin := (hst ⟨tt, xA, xb, xc, bad⟩ (.bool bad) rfl).1
    rw [set_last] at hfin
    have d2' : w2.cell? ⟨r, ys.length * 3 + 2, none⟩ = some (.bool false) := d2
    have f2' : w2.frozen? ⟨r, ys.length * 3 + 2, none⟩ = false := f2
    have e2 : w2.cell? ⟨b, o + i * 3 + 2, none⟩ = some (.bool bad) := (hb2.cell (p := ⟨b, o + i * 3 + 2, none⟩) hbb).trans c2
    have hbl2 : b < w2.heap.size := Nat.lt_of_lt_of_le hbb hb2.size
    have HF : Kept (oneE.Own (w2.setCell ⟨r, ys.length * 3 + 2, none⟩ (.bool bad)) w.heap.size 61 (.slice (some ⟨r, 0, none⟩) (ys.length + 1) cc2) (ys ++ [⟨tt, xA, xb, xc, bad⟩])) := ⟨hfin⟩
    have HB3 := kept (hb2.setCell (p := ⟨r, ys.length * 3 + 2, none⟩) hrb (.bool bad))
    have hn1 : (ys.length : Int) < (ys.length : Int) + 1 := by omega
    have hn2 : (0 : Int) ≤ (ys.length : Int) := by omega
    clear hfin hst ho2 hb2 HN hxn d2 f2 CS C c0 c1
    go_wp2
    go_ret2
    exact ⟨_, rfl, some ⟨r, 0, none⟩, cc2, by simp, by simpa using HF.out, HB3.out⟩
/-- the document's Spoil of bytes -/
theorem rspoilB_any (A : Option Addr) (n c : Nat) (b : List Nat) (at_ : Int) (m : Nat) (w : World) (hn : n = b.length) (hr : Rd w w.heap.size A (BB b)) (hl : AllB b) (hm : m < 4294967296) (hsz : b.length ≤ 140737488351232) :
    Calls Try.prog 33 #[.slice A n c, .int .i64 at_, .int .u32 (m : Int)] w fun e w' => ∃ A2 c2 k, e = .returned (.tuple #[.slice A2 (spoilB b at_ m).length c2, .int .i64 ((k : Nat) : Int)]) ∧ Kept (k = 0 ↔ b = spoilB b at_ m) ∧ Own w' w.heap.size 5 (.slice A2 (spoilB b at_ m).length c2) (BB (spoilB b at_ m)) ∧ Below w.heap.size w w' := by
  subst hn
  unfold spoilB
  by_cases h0 : b.length = 0
  · obtain rfl : b = [] := List.eq_nil_of_length_eq_zero h0
    simp only [List.length_nil, if_true]
    refine (Seal.rspoil_nil A c at_ m w).mono ?_
    rintro e w' ⟨rfl, hw⟩
    subst hw
    exact ⟨none, 0, 0, rfl, ⟨by simp⟩, Own.nilv _ _ _, Below.refl _ _⟩
  · rw [if_neg h0]
    have hj := Seal.firstBit_lt (l := b) at_ (by omega)
    refine (Seal.rspoil_any A b.length c b at_ m w rfl hr hl hm (by omega) (by omega)).mono ?_
    rintro e w' ⟨A2, c2, k, rfl, hk, ho, -, hb⟩
    refine ⟨A2, c2, k, by rw [Crc.spoilt_length], ⟨hk.trans ⟨fun h => (Seal.spoilt_same hl h).symm, fun h => (Crc.burst hl (Nat.le_of_lt hj) hm 0).1 (by rw [← h])⟩⟩, by rw [Crc.spoilt_length]; exact ho, hb⟩
theorem rspoil_no (X : Option Addr) (c : Nat) (pick at_ : Int) (m : Nat) (w : World) : Calls Try.prog 30 #[.slice X 0 c, .int .i64 pick, .int .i64 at_, .int .u32 (m : Int)] w fun e w' => e = .returned (.tuple #[.slice X 0 c, .int .i64 6]) ∧ w = w' := by
  have C := kept (rat_any X 0 c pick w (by decide))
  rw [show atI 0 pick = -1 from rfl] at C
  go_enter Try.func30, Try.ntmps30
  go_wp2_with fail
  refine C.out.mono ?_
  rintro e w' ⟨rfl, hw⟩
  subst hw
  go_wp2
  go_ret2
  exact ⟨rfl, rfl⟩
set_option maxRecDepth 100000 in
theorem rspoil_bad (X : Option Addr) (c : Nat) (ys : List OneM) (pick at_ : Int) (m : Nat) (x : OneM) (w : World) (h : ys.length ≤ 512) (hr : oneE.Rd w w.heap.size X ys) (hx : ys[(atI ys.length pick).toNat]? = some x) (hb : x.bad = true) :
    Calls Try.prog 30 #[.slice X ys.length c, .int .i64 pick, .int .i64 at_, .int .u32 (m : Int)] w fun e w' => e = .returned (.tuple #[.slice X ys.length c, .int .i64 7]) ∧ w = w' := by
  obtain ⟨i, hi, hil, hxi⟩ := rat_i hx
  have C := kept (rat_any X ys.length c pick w h)
  rw [hi] at C
  obtain ⟨b, o, rfl, hbb, hc⟩ := hr.at_ hxi
  obtain ⟨tt, xA, xb, xc, bad⟩ := x
  dsimp only at hb
  subst hb
  have c2 : w.cell? ⟨b, o + i * 3 + 2, none⟩ = some (.bool true) := hc 2 _ rfl
  have hi2 : (i : Int) < (ys.length : Int) := by omega
  have hi3 : (0 : Int) ≤ (i : Int) := by omega
  clear hr hx hxi hc hi
  go_enter Try.func30, Try.ntmps30
  go_wp2_with fail
  refine C.out.mono ?_
  rintro e w' ⟨rfl, hw⟩
  subst hw
  go_wp2
  go_ret2
  exact ⟨rfl, rfl⟩
set_option maxRecDepth 100000 in
set_option maxHeartbeats 4000000 in
theorem rspoil_at (X : Option Addr) (c : Nat) (ys : List OneM) (pick at_ : Int) (m : Nat) (x : OneM) (w : World) (h : ys.length ≤ 512) (hr : oneE.Rd w w.heap.size X ys) (hx : ys[(atI ys.length pick).toNat]? = some x) (hb : x.bad = false) (hxr : Rd w w.heap.size x.A (BB x.b)) (hxo : x.msg.Ok) (hm : m < 4294967296) :
    Calls Try.prog 30 #[.slice X ys.length c, .int .i64 pick, .int .i64 at_, .int .u32 (m : Int)] w fun e w' => ∃ v A2 c2, e = .returned (.tuple #[v, .int .i64 0]) ∧ RNew w (ys.set (atI ys.length pick).toNat ⟨x.to, A2, spoilB x.b at_ m, c2, decide (x.b ≠ spoilB x.b at_ m)⟩) v w' ∧ Rd w' w'.heap.size A2 (BB (spoilB x.b at_ m)) ∧ ∀ a, A2 = some a → w.heap.size ≤ a.block := by
  obtain ⟨i, hi, hil, hxi⟩ := rat_i hx
  have C := kept (rat_any X ys.length c pick w h)
  rw [hi] at C ⊢
  rw [Int.toNat_natCast]
  have HR := kept hr
  obtain ⟨b, o, rfl, hbb, hc⟩ := hr.at_ hxi
  obtain ⟨tt, xA, xb, xc, bad⟩ := x
  dsimp only at hb hxr ⊢
  subst hb
  have c1 : w.cell? ⟨b, o + i * 3 + 1, none⟩ = some (.slice xA xb.length xc) := hc 1 _ rfl
  have c2 : w.cell? ⟨b, o + i * 3 + 2, none⟩ = some (.bool false) := hc 2 _ rfl
  have hi2 : (i : Int) < (ys.length : Int) := by omega
  have hi3 : (0 : Int) ≤ (i : Int) := by omega
  have CS := kept (fun W (hb : Below w.heap.size w W) => rspoilB_any xA xb.length xc xb at_ m W rfl (hxr.next hb) hxo.1 hm hxo.2.1)
  have hown1 : oneE.Own (w.alloc (.cells #[] 61)) w.heap.size 61 (.slice (some ⟨w.heap.size, 0, none⟩) 0 0) [] := Elem.Own.new oneE w w.heap.size 61 [] (Nat.le_refl _) (by simp)
  have hr1 := hr.alloc (Nat.le_refl _) (.cells #[] 61)
  have hbs : (([] : List OneM).length + ys.length) * 40 ≤ 140737488355328 := by simp; omega
  have hb0 : Below w.heap.size w (w.alloc (.cells #[] 61)) := (Below.refl _ _).alloc (Nat.le_refl _) _
  have hdec : decide (xb ≠ spoilB xb at_ m) = !decide (xb = spoilB xb at_ m) := decide_not
  have HDEC := kept hdec
  generalize spoilB xb at_ m = b2 at *
  clear hr hx hc hi hxr hxo hdec
  go_enter Try.func30, Try.ntmps30
  go_wp2_with fail
  refine C.out.mono ?_
  rintro e w' ⟨rfl, hw⟩
  subst hw
  go_wp2_with (at_builtin; refine wpl_appE _ oneE rfl (.tmp 26) (.tmp 27) 52 rfl w.heap.size 61 Try.underlying52 rone_info rfl _ [] rfl hown1 w.heap.size _ _ c ys rfl rfl hr1 hbs (by decide) (by simp) ?_; intro A2 c2' w2 r2 hr2 hown2 hb2; obtain rfl : r2 = ys := hr2.out; have hB2 : Below w.heap.size w w2 := hb0.trans hb2; have e1 : w2.cell? ⟨b, o + i * 3 + 1, none⟩ = some (.slice xA xb.length xc) := (hB2.cell (p := ⟨b, o + i * 3 + 1, none⟩) hbb).trans c1; have hbl2 : b < w2.heap.size := Nat.lt_of_lt_of_le hbb hB2.size; have HO2 := kept hown2; have HB2 := kept hB2; clear hown1 hr1 hr2 hown2 hb2 hB2 hb0)
  refine (CS.out _ HB2.out).mono ?_
  rintro e w3 ⟨A3, c3, k, rfl, hk, ho3, hb3⟩
  have hown3 := HO2.out.next hb3
  obtain ⟨r, rfl, hrb, hrl, d1, f1, hst⟩ := hown3.spot (j := 1) hxi rfl
  have h4 := (hst ⟨tt, A3, b2, c3, false⟩ (.slice A3 b2.length c3) rfl).1
  have hxi2 : (r2.set i (⟨tt, A3, b2, c3, false⟩ : OneM))[i]? = some ⟨tt, A3, b2, c3, false⟩ := List.getElem?_set_self hil
  have d1' : w3.cell? ⟨r, i * 3 + 1, none⟩ = some (.slice xA xb.length xc) := d1
  have f1' : w3.frozen? ⟨r, i * 3 + 1, none⟩ = false := f1
  have HBD : Kept (k = 0 ↔ decide (xb ≠ b2) = false) := ⟨by rw [HDEC.out, hk.out]; simp⟩
  have h4' : oneE.Own (w3.setCell ⟨r, i * 3 + 1, none⟩ (.slice A3 b2.length c3)) w.heap.size 61 (.slice (some ⟨r, 0, none⟩) (r2.set i ⟨tt, A3, b2, c3, false⟩).length c2') (r2.set i ⟨tt, A3, b2, c3, false⟩) := by rw [List.length_set]; exact h4
  obtain ⟨r', er, -, -, d2, f2, hst2⟩ := h4'.spot (j := 2) hxi2 rfl
  obtain rfl : r = r' := congrArg Addr.block (Option.some.inj er)
  have HFIN : Kept (∀ bd : Bool, oneE.Own ((w3.setCell ⟨r, i * 3 + 1, none⟩ (.slice A3 b2.length c3)).setCell ⟨r, i * 3 + 2, none⟩ (.bool bd)) w.heap.size 61 (.slice (some ⟨r, 0, none⟩) (r2.set i ⟨tt, A3, b2, c3, bd⟩).length c2') (r2.set i ⟨tt, A3, b2, c3, bd⟩)) := ⟨fun bd => by
    have h5 := (hst2 ⟨tt, A3, b2, c3, bd⟩ (.bool bd) rfl).1
    rw [List.set_set] at h5
    rw [List.length_set] at h5 ⊢
    exact h5⟩
  have d2' : (w3.setCell ⟨r, i * 3 + 1, none⟩ (.slice A3 b2.length c3)).cell? ⟨r, i * 3 + 2, none⟩ = some (.bool false) := d2
  have f2' : w3.frozen? ⟨r, i * 3 + 2, none⟩ = false := by have h9 := f2; rwa [World.frozen?_setCell] at h9
  have HB3 : Kept (∀ bd : Bool, Below w.heap.size w ((w3.setCell ⟨r, i * 3 + 1, none⟩ (.slice A3 b2.length c3)).setCell ⟨r, i * 3 + 2, none⟩ (.bool bd))) := ⟨fun bd => ((HB2.out.trans (hb3.mono HB2.out.size)).setCell (p := ⟨r, i * 3 + 1, none⟩) hrb _).setCell (p := ⟨r, i * 3 + 2, none⟩) hrb _⟩
  have HRD : Kept (∀ bd : Bool, Rd ((w3.setCell ⟨r, i * 3 + 1, none⟩ (.slice A3 b2.length c3)).setCell ⟨r, i * 3 + 2, none⟩ (.bool bd)) ((w3.setCell ⟨r, i * 3 + 1, none⟩ (.slice A3 b2.length c3)).setCell ⟨r, i * 3 + 2, none⟩ (.bool bd)).heap.size A3 (BB b2)) := ⟨fun bd => by
    have hU : Upd (fun k => k = r) w3 ((w3.setCell ⟨r, i * 3 + 1, none⟩ (.slice A3 b2.length c3)).setCell ⟨r, i * 3 + 2, none⟩ (.bool bd)) := ((Upd.refl (fun k => k = r) w3).setCell (p := ⟨r, i * 3 + 1, none⟩) (.inl rfl) _).setCell (p := ⟨r, i * 3 + 2, none⟩) (.inl rfl) _
    have hrl2 : r < w2.heap.size := (HO2.out.lt r rfl).2
    exact (ho3.rd.updN hU (Nat.le_refl _) fun a ha _ e => by
      have := (ho3.lt a.block (by rw [ha]; rfl)).1
      have e' : a.block = r := e
      omega).more hU.size⟩
  have HHI : Kept (∀ a, A3 = some a → w.heap.size ≤ a.block) := ⟨fun a ha => Nat.le_trans HB2.out.size (ho3.lt a.block (by rw [ha]; rfl)).1⟩
  have hrl3 : r < w3.heap.size := hrl
  clear hst hst2 h4 h4' hown3 ho3 hb3 d1 f1 d2 f2 hk hxi2 er CS C
  rcases Nat.eq_zero_or_pos k with rfl | hkp
  · have hbd := HBD.out.1 rfl
    have HBF := kept hbd
    clear hbd
    go_wp2
    go_ret2
    refine ⟨_, A3, c3, rfl, ⟨some ⟨r, 0, none⟩, c2', ?_, ?_, HB3.out _⟩, HRD.out _, HHI.out⟩
    · rw [List.length_set]; rfl
    · rw [HBF.out]; exact HFIN.out false
  · have hbd : decide (xb ≠ b2) = true := by
      cases e : decide (xb ≠ b2) with
      | true => rfl
      | false => have := HBD.out.2 e; omega
    have HBF := kept hbd
    have hki : (0 : Int) < (k : Int) := by omega
    clear hbd
    go_wp2
    go_ret2
    refine ⟨_, A3, c3, rfl, ⟨some ⟨r, 0, none⟩, c2', ?_, ?_, HB3.out _⟩, HRD.out _, HHI.out⟩
    · rw [List.length_set]; rfl
    · rw [HBF.out]; exact HFIN.out true
end Go.Proofs.Ytpckfnafcmifpaa.Net
