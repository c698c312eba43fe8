import Derived.Test.YtfkfpanhbanljaaGreatSetO
import Derived.Test.YtfkfpanhbanljaaGreatSortQdR
import Derived.Test.YtfkfpanhbanljaaGreatSetP
import Derived.Test.YtfkfpanhbanljaaGreatSetL
import Derived.Test.YtfkfpanhbanljaaGreatSetM
import Derived.BigQuiet
import Derived.BigRegion
import Derived.Deep.DeepCutAuto
/- Sorting numbers: pdqsort of at most 25 bytes sorts. (printed by tools/genqd.py) -/
namespace Go.Proofs.YtfkfpanhbanljaaGreat.SortQ
open Go.Proofs.YtfkfpanhbanljaaGreat.SortW Go.Proofs.YtfkfpanhbanljaaGreat.SortY Go.RowKit Go.Proofs.YtfkfpanhbanljaaGreat.Mem

/-- pdqsort of ranges of at most N bytes sorts -/
def PdqOk (N : Nat) : Prop := ∀ (base : Nat) (A : Option Addr) (n c : Nat) (d : Array Nat) (a b L : Nat) (w : World), RowD w base A n c d → a ≤ b → b ≤ n → n ≤ 25 → L ≤ 1000 → b - a ≤ N → Go.Sort.Below ltB a b d →
    Calls Tryz.prog 53 #[.slice A n c, .int .i64 (a : Int), .int .i64 (b : Int), .int .i64 (L : Int)] w fun e w' => e = .returned (.tuple #[]) ∧ ∃ d', PS base A n c w w' d' ∧ Go.Sort.PermIn a b d d' ∧ Go.Sort.SortedIn ltB a b d'
theorem PS.below {base : Nat} {A : Option Addr} {n c : Nat} {w wr w2 : World} {d : Array Nat} (h : PS base A n c w wr d) (hb : Below wr.heap.size wr w2) : PS base A n c w w2 d := ⟨⟨h.row.1, word_own.2 ((word_own.1 h.row.2).next hb)⟩, h.upd.next hb⟩
set_option maxRecDepth 100000 in
set_option maxHeartbeats 16000000 in
theorem pdq_step (N : Nat) (IH : ∀ M, M < N → PdqOk M) : PdqOk N := by
  intro base A n c d a b L0 w h hab hb hn hL0 hN hB
  have HIH := kept IH
  have HP := kept (PS.start h)
  have HL := kept (Left.start hab hB)
  have hds : b ≤ d.size := by have := h.1; omega
  clear IH h hB
  go_enter Tryz.func53, Tryz.ntmps53
  go_wp2_with fail
  go_loopw [1, 2, 3, 8, 9] (fun sx sy sl sp sq wr => ∃ (x y L : Nat) (e : Array Nat) (p q : Bool), x ≤ y ∧ y ≤ n ∧ y - x ≤ N ∧ sx = .int .i64 (x : Int) ∧ sy = .int .i64 (y : Int) ∧ sl = .int .i64 (L : Int) ∧ sp = .bool p ∧ sq = .bool q ∧ L ≤ 1000 ∧ Kept (SortY.Left d a b e x y) ∧ Kept (PS base A n c w wr e)) (fun sx sy _ _ _ _ => (intOf sy - intOf sx).toNat)
  case atStart => exact ⟨a, b, L0, d, true, true, hab, hb, hN, rfl, rfl, rfl, rfl, rfl, hL0, HL, HP⟩
  case round =>
    clear HL HP
    obtain ⟨x, y, L, e, p, q, hxy, hyn, hyx, rfl, rfl, rfl, rfl, rfl, hL, HL, HP⟩ := hrel
    obtain ⟨l, hl⟩ : ∃ l, y - x = l := ⟨_, rfl⟩
    have hlw : IntKind.i64.wrap ((y : Int) - (x : Int)) = (l : Int) := by rw [IntKind.wrap_i64]; omega
    have hbm : (y : Int) - (x : Int) = (l : Int) := by omega
    have hlx : x + l ≤ y ∧ y ≤ x + l := by omega
    have hes : y ≤ e.size := by have := HP.out.size; omega
    by_cases h12 : l ≤ 12
    · have h12i : (l : Int) ≤ 12 := by omega
      have C := kept (insr_any base A n c e x y wr HP.out.row hyn (by omega) (by omega))
      have hR := Go.Sort.insertionSort_holds swoB e x y hxy hes
      have HF := kept (HL.out.fin _ hR.1 hR.2)
      clear hR
      go_wp2_with fail
      refine C.out.mono ?_
      rintro e' w3 ⟨rfl, hp3⟩
      have HP3 := kept (HP.out.trans hp3)
      clear hp3
      go_wp2_with fail
      exact bodyPost_ret (results_none rfl _ _ _) rfl ⟨rfl, _, HP3.out, HF.out.1, HF.out.2⟩
    · have h12i : ¬ (l : Int) ≤ 12 := by omega
      by_cases hl0 : L = 0
      · have hLi : (L : Int) = 0 := by omega
        have hLb : ((L : Int) == 0) = true := beq_iff_eq.2 hLi
        have C := kept (heap_any base A n c e x y wr HP.out.row (by omega) hyn (by omega))
        have hR := Go.Sort.heapSort_holds swoB e x y hxy hes
        have HF := kept (HL.out.fin _ hR.1 hR.2)
        clear hR
        subst hl0
        clear hLi hLb
        go_wp2_with fail
        refine C.out.mono ?_
        rintro e' w3 ⟨rfl, hp3⟩
        have HP3 := kept (HP.out.trans hp3)
        clear hp3
        go_wp2_with fail
        exact bodyPost_ret (results_none rfl _ _ _) rfl ⟨rfl, _, HP3.out, HF.out.1, HF.out.2⟩
      · have hLi : ¬ (L : Int) = 0 := by omega
        have hLb : ((L : Int) == 0) = false := beq_eq_false_iff_ne.2 hLi
        go_upto_if 35 with fail
        go_cut [3] (fun s wx => ∃ (L2 : Nat) (e2 : Array Nat), s = .int .i64 (L2 : Int) ∧ L2 ≤ 1000 ∧ Kept (SortY.Left d a b e2 x y) ∧ Kept (PS base A n c w wx e2))
        case first => as_aux_lemma =>
          clear HIH
          cases p with
          | true =>
            go_wp2_with fail
            go_meet
            exact ⟨L, e, rfl, hL, HL, HP⟩
          | false =>
            have C := kept (break_any base A n c e x y wr HP.out.row (by omega) (by omega) hyn (by omega))
            go_wp2_with fail
            refine C.out.mono ?_
            rintro e' w3 ⟨rfl, e3, hp3, hpm⟩
            have HL3 := kept (HL.out.perm hds hpm)
            have HP3 := kept (HP.out.trans hp3)
            clear hp3 hpm C
            go_wp2_with fail
            go_meet
            exact ⟨L - 1, e3, by go_num, by omega, HL3, HP3⟩
        case rest =>
          clear HL HP hes
          obtain ⟨L2, e2, rfl, hL2, HL2, HP2⟩ := hcut
          have CP := pivot_any base A n c e2 x l _ HP2.out.row (by omega) (by omega) (by omega) (by omega)
          have hpr := Go.Sort.choosePivot_holds ltB e2 x (x + l) (by omega)
          rw [show (x : Int) + (l : Int) = (y : Int) by omega] at CP
          generalize Go.Sort.choosePivot ltB e2 x (x + l) = R at CP hpr
          obtain ⟨pv, hh⟩ := R
          dsimp only at CP hpr
          obtain ⟨hz, hhz⟩ : ∃ hz : Int, hintN hh = hz := ⟨_, rfl⟩
          have hz3 := hint_three hh
          rw [hhz] at CP hz3
          have hpr1 : x ≤ pv := hpr.1
          have hpr2 : pv < y := by omega
          have C := kept CP
          clear CP hpr hhz hh
          go_wp2_with fail
          refine C.out.mono ?_
          rintro e' w3 ⟨rfl, -, hbw⟩
          have HP3 := kept (HP2.out.below hbw)
          clear hbw C HP2
          go_upto_if 50 with fail
          go_cut [11, 12] (fun sp sh wx => ∃ (v : Nat) (hz : Int) (e3 : Array Nat), sp = .int .i64 (v : Int) ∧ sh = .int .i64 hz ∧ x ≤ v ∧ v < y ∧ Kept (SortY.Left d a b e3 x y) ∧ Kept (PS base A n c w wx e3))
          case first => as_aux_lemma =>
            clear HIH
            by_cases h2 : hz = 2
            · subst h2
              clear hz3
              have C := kept (rev_any base A n c e2 x y w3 HP3.out.row (by omega) hyn (by omega))
              have hpm := Go.Sort.reverseRange_holds e2 x y hxy (by have := HP3.out.size; omega)
              have HL3 := kept (HL2.out.perm hds hpm)
              clear hpm HL2
              go_wp2_with fail
              refine C.out.mono ?_
              rintro e' w4 ⟨rfl, hr4, hu4⟩
              have HP4 := kept (HP3.out.trans ⟨hr4, hu4⟩)
              clear hr4 hu4 C HP3
              go_wp2_with fail
              go_meet
              exact ⟨y - 1 - (pv - x), _, _, by go_num, rfl, by omega, by omega, HL3, HP4⟩
            · have h2b : (hz == 2) = false := beq_eq_false_iff_ne.2 h2
              go_wp2_with fail
              go_meet
              exact ⟨pv, hz, e2, rfl, rfl, hpr1, hpr2, HL2, HP3⟩
          case rest =>
            clear HL2 HP3 hpr1 hpr2 hz3
            obtain ⟨v, hz2, e3, rfl, rfl, hv1, hv2, HL3, HP3⟩ := hcut
            go_upto_region 15 with fail
            obtain ⟨w6, hw6⟩ : ∃ w6 : World, w6 = wc := ⟨_, rfl⟩
            rw [← hw6] at HP3 ⊢
            go_cut [68] (fun bb wx => ∃ K : Bool, bb = .bool K ∧ wx = w6)
            case first => as_aux_lemma =>
              clear HIH HL3 HP3
              by_cases h1 : hz2 = 1
              · subst h1
                cases p with
                | true =>
                  cases q with
                  | true => go_wp2_with fail; go_meet; exact ⟨_, rfl, hw6.symm⟩
                  | false => go_wp2_with fail; go_meet; exact ⟨_, rfl, hw6.symm⟩
                | false => go_wp2_with fail; go_meet; exact ⟨_, rfl, hw6.symm⟩
              · have h1b : (hz2 == 1) = false := beq_eq_false_iff_ne.2 h1
                cases p with
                | true =>
                  cases q with
                  | true => go_wp2_with fail; go_meet; exact ⟨_, rfl, hw6.symm⟩
                  | false => go_wp2_with fail; go_meet; exact ⟨_, rfl, hw6.symm⟩
                | false => go_wp2_with fail; go_meet; exact ⟨_, rfl, hw6.symm⟩
            case rest =>
              obtain ⟨K, rfl, hwk⟩ := hcut
              rw [hwk]
              clear hwk hw6
              go_upto_if 68 with fail
              go_cut [] (fun wx => Kept (PS base A n c w wx e3))
              case first => as_aux_lemma =>
                clear HIH
                cases K with
                | false =>
                  go_wp2_with fail
                  go_meet
                  exact HP3
                | true =>
                  have hes : y ≤ e3.size := by have := HP3.out.size; omega
                  obtain ⟨B, hBB⟩ : ∃ B, decide (Go.Sort.scanSorted ltB e3 y (x + 1) = y) = B := ⟨_, rfl⟩
                  have C := parti_any base A n c e3 x y w6 HP3.out.row (by omega) (by omega) hyn (by omega)
                  rw [hBB] at C
                  have hR := (Go.Sort.partialInsertionSort_holds swoB e3 x y (by omega) hes HL3.out.below).2
                  rw [partial_eq (by omega), hBB] at hR
                  have HF : Kept (B = true → Go.Sort.PermIn a b d e3 ∧ Go.Sort.SortedIn ltB a b e3) := ⟨fun h => HL3.out.fin e3 (Go.Sort.permIn_refl e3 x y) (hR h)⟩
                  have CK := kept C
                  clear hR C hBB HL3 hes
                  go_wp2_with fail
                  refine CK.out.mono ?_
                  rintro e' w7 ⟨rfl, hp7⟩
                  have HP7 := kept (HP3.out.trans hp7)
                  clear hp7 CK HP3
                  cases B with
                  | true =>
                    have HF2 := kept (HF.out rfl)
                    clear HF
                    go_wp2_with fail
                    exact bodyPost_ret (results_none rfl _ _ _) rfl ⟨rfl, _, HP7.out, HF2.out.1, HF2.out.2⟩
                  | false =>
                    clear HF
                    go_wp2_with fail
                    go_meet
                    exact HP7
              case rest =>
                clear HP3
                have HP3 := hcut
                clear hcut
                obtain ⟨G, hG⟩ : ∃ G, (decide (0 < x) && !ltB e3[x - 1]! e3[v]!) = G := ⟨_, rfl⟩
                have HG := kept hG
                clear hG
                go_upto_region 17 with fail
                go_cut [87] (fun bb wx => bb = .bool G ∧ Kept (PS base A n c w wx e3))
                case first => as_aux_lemma =>
                  clear HIH HL3
                  by_cases hx0 : 0 < x
                  · have hxi : (0 : Int) < (x : Int) := by omega
                    have hxd : decide ((x : Int) > 0) = true := decide_eq_true hxi
                    obtain ⟨r, rfl⟩ := HP3.out.ad (by omega)
                    obtain ⟨c0, f0⟩ := HP3.out.at (k := x - 1) (by omega)
                    obtain ⟨c1, f1⟩ := HP3.out.at (k := v) (by omega)
                    have HB2 := HG.out
                    rw [decide_eq_true hx0, Bool.true_and] at HB2
                    have CL := kept (fun W => SortW.less_any (e3[x - 1]!) (e3[v]!) (!G) (by rw [← HB2, Bool.not_not]; rfl) W)
                    clear HB2 HG
                    generalize e3[x - 1]! = vk at *
                    generalize e3[v]! = va at *
                    have hvn : (v : Int) < (n : Int) := by omega
                    have hw1 : IntKind.i64.wrap ((x : Int) - 1) = ((x - 1 : Nat) : Int) := by rw [IntKind.wrap_i64]; omega
                    have hb1 : (0 : Int) ≤ ((x - 1 : Nat) : Int) := by omega
                    have hb2 : ((x - 1 : Nat) : Int) < (n : Int) := by omega
                    go_quiet (first | (go_at_call 66; exact Calls.quiet_of_same (CL.out _)))
                    go_wp2_with fail
                    go_meet
                    first | exact ⟨rfl, ⟨HP3.out.drewN _⟩⟩ | exact ⟨by cases G <;> rfl, ⟨HP3.out.drewN _⟩⟩
                  · have hxi : ¬ (0 : Int) < (x : Int) := by omega
                    have hxd : decide ((x : Int) > 0) = false := decide_eq_false hxi
                    have HB2 : Kept (G = false) := ⟨by rw [← HG.out, decide_eq_false hx0, Bool.false_and]⟩
                    clear HG
                    obtain rfl := HB2.out
                    clear HB2
                    go_quiet (fail)
                    go_wp2_with fail
                    go_meet
                    exact ⟨rfl, ⟨HP3.out.drewN _⟩⟩
                case rest =>
                  clear HP3
                  obtain ⟨rfl, HP3⟩ := hcut
                  cases G with
                  | true =>
                    have HX : Kept (0 < x ∧ ltB e3[x - 1]! e3[v]! = false) := ⟨by
                      have h2 := HG.out
                      rw [Bool.and_eq_true] at h2
                      exact ⟨of_decide_eq_true h2.1, by simpa using h2.2⟩⟩
                    have C := parte_any base A n c e3 x y v _ HP3.out.row hv1 hv2 hyn (by omega)
                    obtain ⟨R, hR⟩ : ∃ R, Go.Sort.partitionEqual ltB e3 x y v = R := ⟨_, rfl⟩
                    obtain ⟨m, e4⟩ := R
                    rw [hR] at C
                    dsimp only at C
                    obtain ⟨hxm, hl4⟩ := HL3.out.eqs hds HX.out.1 hv1 hv2 HX.out.2 hR
                    have hmy := hl4.le
                    have HL4 := kept hl4
                    have CK := kept C
                    clear hl4 C hR HX HG HL3
                    go_wp2_with fail
                    refine CK.out.mono ?_
                    rintro e' w7 ⟨rfl, hp7⟩
                    have HP7 := kept (HP3.out.trans hp7)
                    clear hp7 CK HP3
                    go_wp2_with fail
                    go_roundw
                    case rel => exact ⟨m, y, L2, e4, p, q, hmy, hyn, by omega, rfl, rfl, rfl, rfl, rfl, hL2, HL4, HP7⟩
                    case measure => simp [intOf]; omega
                  | false =>
                    have C := part_any base A n c e3 x y v _ HP3.out.row hv1 hv2 hyn (by omega)
                    obtain ⟨R, hR⟩ : ∃ R, Go.Sort.partition ltB e3 x y v = R := ⟨_, rfl⟩
                    obtain ⟨m, ap, e4⟩ := R
                    rw [hR] at C
                    dsimp only at C
                    obtain ⟨hxm, hmy, -, hpt0⟩ := HL3.out.parts hds hv1 hv2 hR
                    have hpt := kept hpt0
                    have CK := kept C
                    clear hpt0 C hR HG HL3
                    go_wp2_with fail
                    refine CK.out.mono ?_
                    rintro e' w7 ⟨rfl, hp7⟩
                    have HP4 := kept (HP3.out.trans hp7)
                    clear hp7 CK HP3
                    have q8 : Int.tdiv (l : Int) 8 = ((l / 8 : Nat) : Int) := (Int.ofNat_tdiv l 8).symm
                    have hl0i : (0 : Int) ≤ (l : Int) := by omega
                    by_cases hlr : m - x < y - m
                    · have hlri : (m : Int) - (x : Int) < (y : Int) - (m : Int) := by omega
                      have BAL : Kept (decide ((l : Int) / 8 ≤ (m : Int) - (x : Int)) = decide (l / 8 ≤ m - x)) := ⟨by apply decide_eq_decide.2; omega⟩
                      have C4 := kept (HIH.out (m - x) (by omega) base A n c e4 x m L2 _ HP4.out.row (by omega) (by omega) hn hL2 (Nat.le_refl _) hpt.out.1)
                      go_wp2_with fail
                      refine C4.out.mono ?_
                      rintro e' w5 ⟨rfl, e5, hp5, hpm5, hso5⟩
                      have HP5 := kept (HP4.out.trans hp5)
                      have HL5 := kept (hpt.out.2.2.1 e5 hpm5 hso5)
                      clear C4 hp5 hpm5 hso5 hpt HP4
                      go_wp2_with fail
                      go_roundw
                      case rel => exact ⟨(m + 1), y, L2, e5, decide (l / 8 ≤ m - x), ap, by omega, by omega, by omega, by go_num, by go_num, rfl, by rw [BAL.out], rfl, hL2, HL5, HP5⟩
                      case measure => simp [intOf]; omega
                    · have hlri : ¬ (m : Int) - (x : Int) < (y : Int) - (m : Int) := by omega
                      have BAL : Kept (decide ((l : Int) / 8 ≤ (y : Int) - (m : Int)) = decide (l / 8 ≤ y - m)) := ⟨by apply decide_eq_decide.2; omega⟩
                      have C4 := kept (HIH.out (y - (m + 1)) (by omega) base A n c e4 (m + 1) y L2 _ HP4.out.row (by omega) (by omega) hn hL2 (Nat.le_refl _) hpt.out.2.1)
                      rw [show (((m + 1 : Nat)) : Int) = (m : Int) + 1 from rfl] at C4
                      go_wp2_with fail
                      refine C4.out.mono ?_
                      rintro e' w5 ⟨rfl, e5, hp5, hpm5, hso5⟩
                      have HP5 := kept (HP4.out.trans hp5)
                      have HL5 := kept (hpt.out.2.2.2 e5 hpm5 hso5)
                      clear C4 hp5 hpm5 hso5 hpt HP4
                      go_wp2_with fail
                      go_roundw
                      case rel => exact ⟨x, m, L2, e5, decide (l / 8 ≤ y - m), ap, by omega, by omega, by omega, by go_num, by go_num, rfl, by rw [BAL.out], rfl, hL2, HL5, HP5⟩
                      case measure => simp [intOf]; omega
end Go.Proofs.YtfkfpanhbanljaaGreat.SortQ

/- Sorting numbers: slices.Sort of at most 25 bytes. (printed by tools/genqd.py) -/
namespace Go.Proofs.YtfkfpanhbanljaaGreat.SortQ
open Go.Proofs.YtfkfpanhbanljaaGreat.SortW Go.Proofs.YtfkfpanhbanljaaGreat.SortY Go.RowKit Go.Proofs.YtfkfpanhbanljaaGreat.Mem

theorem pdq_any (N : Nat) : PdqOk N := Nat.strongRecOn N fun n ih => pdq_step n ih
theorem sort_25 (base : Nat) (A : Option Addr) (c : Nat) (l : List Nat) (w : World) (h : Own w base 33 (.slice A l.length c) (WB l)) (hsz : l.length ≤ 25) :
    Calls Tryz.prog 44 #[.slice A l.length c] w fun e w' => e = .returned (.tuple #[]) ∧ ∃ l', l'.Perm l ∧ l'.Pairwise (· ≤ ·) ∧ Own w' base 33 (.slice A l.length c) (WB l') ∧ Upd (fun k => (Value.slice A l.length c).ownBlock = some k) w w' := by
  have CL := kept (len_25 l.length hsz w)
  have hr : RowD w base A l.length c l.toArray := ⟨by simp, h⟩
  have C := kept (fun (v : Nat) (hv : v ≤ 1000) => pdq_any l.length base A l.length c l.toArray 0 l.length v w hr (Nat.zero_le _) (Nat.le_refl _) hsz hv (by omega) (.inl rfl))
  have HEND : Kept (∀ e : Array Nat, Go.Sort.PermIn 0 l.length l.toArray e → Go.Sort.SortedIn ltB 0 l.length e → e.toList.Perm l ∧ e.toList.Pairwise (· ≤ ·)) := ⟨fun e h1 h2 => sorted_list h1 h2⟩
  have h2 : l.length ≤ 25 := hsz
  have h3 : IntKind.u64.wrap (l.length : Int) = (l.length : Int) := by rw [IntKind.wrap_u64]; omega
  clear h hsz hr
  generalize hn : l.length = n at *
  go_enter Tryz.func44, Tryz.ntmps44
  go_wp2_with fail
  refine CL.out.mono ?_
  rintro e w1 ⟨⟨v, rfl, hv, hv2⟩, rfl⟩
  clear hv2
  go_wp2_with fail
  refine (C.out v (by omega)).mono ?_
  rintro e w1 ⟨rfl, d', hp, hpm, hso⟩
  have HZ := kept (HEND.out d' hpm hso)
  have HP := kept hp
  clear hp hpm hso C HEND
  go_wp2_with fail
  go_end0
  exact ⟨rfl, d'.toList, HZ.out.1, HZ.out.2, HP.out.row.2, HP.out.upd⟩
end Go.Proofs.YtfkfpanhbanljaaGreat.SortQ
