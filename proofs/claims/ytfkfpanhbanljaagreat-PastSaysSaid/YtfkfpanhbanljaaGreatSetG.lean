import Derived.Test.YtfkfpanhbanljaaGreatMem
import Derived.Test.YtfkfpanhbanljaaGreatSetB
import Derived.Test.YtfkfpanhbanljaaGreatHold
import Derived.Test.YtfkfpanhbanljaaGreatMemK
import Derived.Deep.QuietTactic
import Derived.BigQuiet
import Derived.Deep.DeepCutAuto
/- Insertion by exchanges: the plain law. -/
namespace Go.Proofs.YtfkfpanhbanljaaGreat.SortW

/-- an element and the one ahead of it, exchanged -/
def swapL (xs : List Nat) (j : Nat) : List Nat := (xs.set j (xs.getD (j - 1) 0)).set (j - 1) (xs.getD j 0)
theorem split2 {xs : List Nat} {j : Nat} (h1 : 1 ≤ j) (h2 : j < xs.length) : ∃ L a b R, xs = L ++ a :: b :: R ∧ L.length + 1 = j := by
  refine ⟨xs.take (j - 1), xs[j - 1]'(by omega), xs[j], xs.drop (j + 1), ?_, by rw [List.length_take]; omega⟩
  have e1 : xs.drop (j - 1) = xs[j - 1]'(by omega) :: xs.drop j := by
    rw [List.drop_eq_getElem_cons (by omega)]
    congr 2
    omega
  rw [← List.drop_eq_getElem_cons h2, ← e1, List.take_append_drop]
theorem swap_split (L R : List Nat) (a b : Nat) : swapL (L ++ a :: b :: R) (L.length + 1) = L ++ b :: a :: R := by
  unfold swapL
  rw [Nat.add_sub_cancel]
  have g1 : (L ++ a :: b :: R).getD L.length 0 = a := by simp [List.getD]
  have g2 : (L ++ a :: b :: R).getD (L.length + 1) 0 = b := by simp [List.getD, List.getElem?_append_right]
  rw [g1, g2, List.set_append_right _ _ (by omega), List.set_append_right _ _ (by omega)]
  simp
theorem swap_perm {xs : List Nat} {j : Nat} (h1 : 1 ≤ j) (h2 : j < xs.length) : (swapL xs j).Perm xs := by
  obtain ⟨L, a, b, R, rfl, rfl⟩ := split2 h1 h2
  rw [swap_split]
  exact (List.Perm.swap a b R).append_left L
theorem swap_get {xs : List Nat} {j : Nat} (h1 : 1 ≤ j) (h2 : j < xs.length) (q : Nat) : (swapL xs j).getD q 0 = if q = j then xs.getD (j - 1) 0 else if q = j - 1 then xs.getD j 0 else xs.getD q 0 := by
  unfold swapL
  simp only [List.getD_eq_getElem?_getD, List.getElem?_set, List.length_set]
  by_cases e1 : q = j
  · subst e1
    rw [if_neg (by omega), if_pos rfl, if_pos h2, if_pos rfl]; rfl
  · by_cases e2 : q = j - 1
    · subst e2
      rw [if_pos rfl, if_pos (by omega), if_neg (by omega), if_pos rfl]; rfl
    · rw [if_neg (fun e => e2 e.symm), if_neg (fun e => e1 e.symm), if_neg e1, if_neg e2]
theorem swap_len (xs : List Nat) (j : Nat) : (swapL xs j).length = xs.length := by simp [swapL]
/-- the first i are in order -/
def UpTo (xs : List Nat) (i : Nat) : Prop := ∀ p q, p < q → q < i → xs.getD p 0 ≤ xs.getD q 0
/-- all up to place i are in order, but that at place j with those ahead of it -/
def But (xs : List Nat) (i j : Nat) : Prop := ∀ p q, p < q → q ≤ i → q ≠ j → xs.getD p 0 ≤ xs.getD q 0
theorem but_start {xs : List Nat} {i : Nat} (h : UpTo xs i) : But xs i i := fun p q h1 h2 h3 => h p q h1 (by omega)
theorem but_end {xs : List Nat} {i j : Nat} (h : But xs i j) (hj : j ≤ i) (he : j = 0 ∨ xs.getD (j - 1) 0 ≤ xs.getD j 0) : UpTo xs (i + 1) := fun p q h1 h2 => by
  by_cases e : q = j
  · subst e
    rcases he with he | he
    · omega
    · by_cases e2 : p = q - 1
      · subst e2; exact he
      · exact Nat.le_trans (h p (q - 1) (by omega) (by omega) (by omega)) he
  · exact h p q h1 (by omega) e
theorem but_swap {xs : List Nat} {i j : Nat} (h : But xs i j) (h1 : 1 ≤ j) (hj : j ≤ i) (h2 : i < xs.length) (hl : xs.getD j 0 < xs.getD (j - 1) 0) : But (swapL xs j) i (j - 1) := fun p q hp hq hne => by
  rw [swap_get h1 (by omega), swap_get h1 (by omega)]
  rw [if_neg hne (c := q = j - 1)]
  by_cases e1 : q = j
  · subst e1
    rw [if_pos rfl, if_neg (show ¬ p = q by omega)]
    by_cases e2 : p = q - 1
    · rw [if_pos e2]; omega
    · rw [if_neg e2]; exact h p (q - 1) (by omega) (by omega) (by omega)
  · rw [if_neg e1]
    by_cases e2 : p = j
    · rw [if_pos e2]; exact h (j - 1) q (by omega) hq e1
    · rw [if_neg e2]
      by_cases e3 : p = j - 1
      · rw [if_pos e3]; exact h j q (by omega) hq e1
      · rw [if_neg e3]; exact h p q hp hq e1
theorem upTo_pairwise {xs : List Nat} (h : UpTo xs xs.length) : xs.Pairwise (· ≤ ·) := List.pairwise_iff_getElem.2 fun p q hp hq hpq => by
  have := h p q hpq hq
  simpa [List.getD, hp, hq] using this
end Go.Proofs.YtfkfpanhbanljaaGreat.SortW

/- slices.insertionSortOrdered, and Sort of at most twelve numbers (uint64), in a row of the call's own. -/
namespace Go.Proofs.YtfkfpanhbanljaaGreat.SortW
open Go.RowKit Go.Proofs.YtfkfpanhbanljaaGreat.Mem

theorem isNaN_any (x : Nat) (w : World) : Calls Tryz.prog 85 #[.int .u64 (x : Int)] w fun e w' => e = .returned (.bool false) ∧ w = w' := by
  go_enter Tryz.func85, Tryz.ntmps85
  go_wp2
  go_ret
  exact ⟨by simp, rfl⟩
theorem less_any (x y : Nat) (b : Bool) (hb : decide (x < y) = b) (w : World) : Calls Tryz.prog 66 #[.int .u64 (x : Int), .int .u64 (y : Int)] w fun e w' => e = .returned (.bool b) ∧ w' = w := by
  go_enter Tryz.func66, Tryz.ntmps66
  go_wp2_with fail
  refine (isNaN_any x _).mono ?_
  rintro e w1 ⟨rfl, rfl⟩
  go_wp2_with fail
  go_ret
  first | exact ⟨rfl, rfl⟩ | exact ⟨ret_bool hb, rfl⟩
/-- a row of words of one's own: one of them, and a store there -/
theorem word_spot {w : World} {base : Nat} {A : Option Addr} {n c : Nat} {xs : List Nat} (h : Own w base 33 (.slice A n c) (WB xs)) {k : Nat} (hk : k < xs.length) :
    ∃ g, A = some ⟨g, 0, none⟩ ∧ base ≤ g ∧ w.cell? ⟨g, k, none⟩ = some (.int .u64 ((xs.getD k 0 : Nat) : Int)) ∧ w.frozen? ⟨g, k, none⟩ = false ∧ ∀ v : Nat, Own (w.setCell ⟨g, k, none⟩ (.int .u64 (v : Int))) base 33 (.slice (some ⟨g, 0, none⟩) n c) (WB (xs.set k v)) := by
  have hu : (WB xs)[k]? = some (.int .u64 ((xs.getD k 0 : Nat) : Int)) := by simp [WB, List.getD, hk]
  obtain ⟨g, h1, h2, h3, h4, h5, h6⟩ := OwnK.spot h hu
  refine ⟨g, h1, h2, h4, h5, fun v => ?_⟩
  have := (h6 (.int .u64 (v : Int))).1
  have e : (WB xs).set k (.int .u64 (v : Int)) = WB (xs.set k v) := by simp [WB, List.map_set]
  rw [e] at this
  have hl : (WB (xs.set k v)).length = (WB xs).length := by simp [WB]
  unfold Own
  rw [hl]
  exact this
set_option maxRecDepth 100000 in
set_option maxHeartbeats 4000000 in
theorem ins_own (base : Nat) (A : Option Addr) (c : Nat) (l : List Nat) (w : World) (h : Own w base 33 (.slice A l.length c) (WB l)) (hsz : l.length ≤ 1000000) :
    Calls Tryz.prog 60 #[.slice A l.length c, .int .i64 0, .int .i64 (l.length : Int)] w fun e w' => e = .returned (.tuple #[]) ∧ ∃ l', l'.Perm l ∧ l'.Pairwise (· ≤ ·) ∧ Own w' base 33 (.slice A l.length c) (WB l') ∧ Upd (fun k => (Value.slice A l.length c).ownBlock = some k) w w' := by
  have H := kept h
  clear h
  go_enter Tryz.func60, Tryz.ntmps60
  go_wp2_with fail
  go_loopw [6] (fun i wr => ∃ (k : Nat) (xs : List Nat), 1 ≤ k ∧ (k ≤ l.length ∨ k = 1) ∧ i = .int .i64 (k : Int) ∧ Kept (xs.length = l.length) ∧ Kept (xs.Perm l ∧ UpTo xs k ∧ Own wr base 33 (.slice A l.length c) (WB xs) ∧ Upd (fun k => (Value.slice A l.length c).ownBlock = some k) w wr)) (fun i _ => l.length - (intOf i).toNat)
  case atStart => exact ⟨1, l, Nat.le_refl _, .inr rfl, rfl, ⟨rfl⟩, ⟨List.Perm.refl _, fun p q _ _ => by omega, H.out, Upd.refl _ _⟩⟩
  case round =>
    clear H
    obtain ⟨k, xs, hk1, hk2, rfl, HXL, hin⟩ := hrel
    by_cases hlt : k < l.length
    · have hkn : (k : Int) < (l.length : Int) := by omega
      have HI : Kept (But xs k k ∧ xs.Perm l ∧ Own wr base 33 (.slice A l.length c) (WB xs) ∧ Upd (fun k => (Value.slice A l.length c).ownBlock = some k) w wr) := ⟨but_start hin.out.2.1, hin.out.1, hin.out.2.2⟩
      clear hin
      go_wp2_with fail
      go_loopw [7] (fun j wr2 => ∃ (m : Nat) (ys : List Nat), m ≤ k ∧ j = .int .i64 (m : Int) ∧ Kept (ys.length = l.length) ∧ Kept (But ys k m ∧ ys.Perm l ∧ Own wr2 base 33 (.slice A l.length c) (WB ys) ∧ Upd (fun k => (Value.slice A l.length c).ownBlock = some k) w wr2)) (fun j _ => (intOf j).toNat)
      case atStart => exact ⟨k, xs, Nat.le_refl _, rfl, HXL, HI⟩
      case round =>
        clear HI HXL
        obtain ⟨m, ys, hm, rfl, HYL, hin⟩ := hrel
        rcases Nat.eq_zero_or_pos m with rfl | hpos
        · have HE : Kept (UpTo ys (k + 1) ∧ ys.Perm l ∧ Own wr base 33 (.slice A l.length c) (WB ys) ∧ Upd (fun k => (Value.slice A l.length c).ownBlock = some k) w wr) := ⟨but_end hin.out.1 hm (.inl rfl), hin.out.2⟩
          clear hin
          go_wp2_with fail
          go_quiet (fail)
          go_wp2_with fail
          go_roundw
          case rel => exact ⟨k + 1, ys, by omega, .inl (by omega), by go_num, HYL, ⟨HE.out.2.1, HE.out.1, (by exact HE.out.2.2.1), HE.out.2.2.2.drewN _⟩⟩
          case measure => simp [intOf]; omega
        · have hyl := HYL.out
          obtain ⟨r, hA, hbr, c0, f0, s0⟩ := word_spot hin.out.2.2.1 (k := m) (by omega)
          obtain ⟨r1, hA1, -, c1, f1, -⟩ := word_spot hin.out.2.2.1 (k := m - 1) (by omega)
          subst hA
          obtain rfl : r = r1 := congrArg Addr.block (Option.some.inj hA1)
          have hgt : (0 : Int) < (m : Int) := by omega
          have hgd : decide ((m : Int) > 0) = true := decide_eq_true hgt
          have hmn : (m : Int) < (l.length : Int) := by omega
          have hw1 : IntKind.i64.wrap ((m : Int) - 1) = ((m - 1 : Nat) : Int) := by rw [IntKind.wrap_i64]; omega
          have hb1 : (0 : Int) ≤ ((m - 1 : Nat) : Int) := by omega
          have hb2 : ((m - 1 : Nat) : Int) < (l.length : Int) := by omega
          have HIN := kept hin.out
          have HS := kept s0
          clear s0 hin hA1
          have HVX : Kept (swapL ys m = (ys.set m (ys.getD (m - 1) 0)).set (m - 1) (ys.getD m 0)) := ⟨rfl⟩
          have HBE : Kept (ys.getD (m - 1) 0 ≤ ys.getD m 0 → UpTo ys (k + 1)) := ⟨fun h => but_end HIN.out.1 hm (.inr h)⟩
          have HBS : Kept (ys.getD m 0 < ys.getD (m - 1) 0 → But (swapL ys m) k (m - 1)) := ⟨fun h => but_swap HIN.out.1 hpos hm (by omega) h⟩
          generalize ys.getD m 0 = vx at *
          generalize ys.getD (m - 1) 0 = vy at *
          cases hlt2 : decide (vx < vy) with
          | false =>
            have CL := kept (fun W => less_any vx vy false hlt2 W)
            have HE : Kept (UpTo ys (k + 1) ∧ ys.Perm l ∧ Own wr base 33 (.slice (some ⟨r, 0, none⟩) l.length c) (WB ys) ∧ Upd (fun k => (Value.slice (some ⟨r, 0, none⟩) l.length c).ownBlock = some k) w wr) := ⟨HBE.out (by simpa using hlt2), HIN.out.2⟩
            clear hlt2 HIN
            go_wp2_with fail
            go_quiet (first | (go_at_call 66; exact Calls.quiet_of_same (CL.out _)))
            go_wp2_with fail
            go_roundw
            case rel => exact ⟨k + 1, ys, by omega, .inl (by omega), by go_num, HYL, ⟨HE.out.2.1, HE.out.1, (by exact HE.out.2.2.1), HE.out.2.2.2.drewN _⟩⟩
            case measure => simp [intOf]; omega
          | true =>
            have CL := kept (fun W => less_any vx vy true hlt2 W)
            have HSW := kept (HBS.out (by simpa using hlt2))
            have HSP := kept ((swap_perm hpos (by omega)).trans HIN.out.2.1)
            have HSL : Kept ((swapL ys m).length = l.length) := ⟨by rw [swap_len, hyl]⟩
            have HUP := kept HIN.out.2.2.2
            have HOW := kept HIN.out.2.2.1
            clear hlt2 HIN
            go_wp2_with fail
            go_quiet (first | (go_at_call 66; exact Calls.quiet_of_same (CL.out _)))
            go_upto_region 6 with fail
            have HOQ : Kept (Own (wr.drewN nq) base 33 (.slice (some ⟨r, 0, none⟩) l.length c) (WB ys)) := ⟨(by exact HOW.out)⟩
            have HUQ := kept (HUP.out.drewN nq)
            have c0q : (wr.drewN nq).cell? ⟨r, m, none⟩ = some (.int .u64 (vx : Int)) := c0
            have c1q : (wr.drewN nq).cell? ⟨r, m - 1, none⟩ = some (.int .u64 (vy : Int)) := c1
            have f0q : (wr.drewN nq).frozen? ⟨r, m, none⟩ = false := f0
            have f1q : (wr.drewN nq).frozen? ⟨r, m - 1, none⟩ = false := f1
            clear c0 c1 f0 f1 HUP HOW HS
            generalize wr.drewN nq = wq at *
            have hne : ¬ m = m - 1 := by omega
            have hne2 : ¬ m - 1 = m := by omega
            have HFIN : Kept (∀ W : World, W.heap = wq.heap → Upd (fun k => (Value.slice (some ⟨r, 0, none⟩) l.length c).ownBlock = some k) w W → Own ((W.setCell ⟨r, m, none⟩ (.int .u64 (vy : Int))).setCell ⟨r, m - 1, none⟩ (.int .u64 (vx : Int))) base 33 (.slice (some ⟨r, 0, none⟩) l.length c) (WB (swapL ys m)) ∧ Upd (fun k => (Value.slice (some ⟨r, 0, none⟩) l.length c).ownBlock = some k) w ((W.setCell ⟨r, m, none⟩ (.int .u64 (vy : Int))).setCell ⟨r, m - 1, none⟩ (.int .u64 (vx : Int)))) := ⟨fun W hW hu => by
              have ho : Own W base 33 (.slice (some ⟨r, 0, none⟩) l.length c) (WB ys) := by
                have h0 := HOQ.out
                unfold Own World.ownsRow at h0 ⊢
                rw [hW]
                exact h0
              obtain ⟨g1, e1, -, -, -, s1⟩ := word_spot ho (k := m) (by omega)
              obtain rfl : r = g1 := congrArg Addr.block (Option.some.inj e1)
              obtain ⟨g2, e2, -, -, -, s2⟩ := word_spot (s1 vy) (k := m - 1) (by rw [List.length_set]; omega)
              obtain rfl : r = g2 := congrArg Addr.block (Option.some.inj e2)
              rw [HVX.out]
              exact ⟨s2 vx, (hu.setCell (p := ⟨r, m, none⟩) (.inl rfl) _).setCell (p := ⟨r, m - 1, none⟩) (.inl rfl) _⟩⟩
            clear HVX HBE HBS
            have HF2 := kept (HFIN.out wq.drew rfl HUQ.out.drew)
            clear HFIN HOQ HUQ
            go_region
            all_goals go_wp2_with fail
            all_goals go_roundw
            all_goals first | exact ⟨m - 1, swapL ys m, by omega, by go_num, HSL, ⟨HSW.out, HSP.out, HF2.out.1, HF2.out.2⟩⟩ | (simp [intOf]; omega)
    · have HF : Kept (xs.Perm l ∧ xs.Pairwise (· ≤ ·) ∧ Own wr base 33 (.slice A l.length c) (WB xs) ∧ Upd (fun k => (Value.slice A l.length c).ownBlock = some k) w wr) := ⟨hin.out.1, upTo_pairwise (fun p q h1 h2 => hin.out.2.1 p q h1 (by rw [HXL.out] at h2; omega)), hin.out.2.2⟩
      have hge : ¬ (k : Int) < (l.length : Int) := by omega
      clear hin
      go_wp2_with fail
      go_end0
      exact ⟨rfl, xs, HF.out⟩
end Go.Proofs.YtfkfpanhbanljaaGreat.SortW

/- slices.Sort of at most twelve numbers (uint64), in a row of the call's own. (printed by tools/gensb.py) -/
namespace Go.Proofs.YtfkfpanhbanljaaGreat.SortW
open Go.RowKit Go.Proofs.YtfkfpanhbanljaaGreat.Mem

set_option maxRecDepth 100000 in
theorem len64_0s (w : World) : Calls Tryz.prog 70 #[.int .u64 0] w fun e w' => e = .returned (.int .i64 0) ∧ w = w' := by
  go_enter Tryz.func70, Tryz.ntmps70
  go_wp2
  go_ret
  exact ⟨by kernel_rfl, rfl⟩
set_option maxRecDepth 100000 in
theorem len64_1s (w : World) : Calls Tryz.prog 70 #[.int .u64 1] w fun e w' => e = .returned (.int .i64 1) ∧ w = w' := by
  go_enter Tryz.func70, Tryz.ntmps70
  go_wp2
  go_ret
  exact ⟨by kernel_rfl, rfl⟩
set_option maxRecDepth 100000 in
theorem len64_2s (w : World) : Calls Tryz.prog 70 #[.int .u64 2] w fun e w' => e = .returned (.int .i64 2) ∧ w = w' := by
  go_enter Tryz.func70, Tryz.ntmps70
  go_wp2
  go_ret
  exact ⟨by kernel_rfl, rfl⟩
set_option maxRecDepth 100000 in
theorem len64_3s (w : World) : Calls Tryz.prog 70 #[.int .u64 3] w fun e w' => e = .returned (.int .i64 2) ∧ w = w' := by
  go_enter Tryz.func70, Tryz.ntmps70
  go_wp2
  go_ret
  exact ⟨by kernel_rfl, rfl⟩
set_option maxRecDepth 100000 in
theorem len64_4s (w : World) : Calls Tryz.prog 70 #[.int .u64 4] w fun e w' => e = .returned (.int .i64 3) ∧ w = w' := by
  go_enter Tryz.func70, Tryz.ntmps70
  go_wp2
  go_ret
  exact ⟨by kernel_rfl, rfl⟩
set_option maxRecDepth 100000 in
theorem len64_5s (w : World) : Calls Tryz.prog 70 #[.int .u64 5] w fun e w' => e = .returned (.int .i64 3) ∧ w = w' := by
  go_enter Tryz.func70, Tryz.ntmps70
  go_wp2
  go_ret
  exact ⟨by kernel_rfl, rfl⟩
set_option maxRecDepth 100000 in
theorem len64_6s (w : World) : Calls Tryz.prog 70 #[.int .u64 6] w fun e w' => e = .returned (.int .i64 3) ∧ w = w' := by
  go_enter Tryz.func70, Tryz.ntmps70
  go_wp2
  go_ret
  exact ⟨by kernel_rfl, rfl⟩
set_option maxRecDepth 100000 in
theorem len64_7s (w : World) : Calls Tryz.prog 70 #[.int .u64 7] w fun e w' => e = .returned (.int .i64 3) ∧ w = w' := by
  go_enter Tryz.func70, Tryz.ntmps70
  go_wp2
  go_ret
  exact ⟨by kernel_rfl, rfl⟩
set_option maxRecDepth 100000 in
theorem len64_8s (w : World) : Calls Tryz.prog 70 #[.int .u64 8] w fun e w' => e = .returned (.int .i64 4) ∧ w = w' := by
  go_enter Tryz.func70, Tryz.ntmps70
  go_wp2
  go_ret
  exact ⟨by kernel_rfl, rfl⟩
set_option maxRecDepth 100000 in
theorem len64_9s (w : World) : Calls Tryz.prog 70 #[.int .u64 9] w fun e w' => e = .returned (.int .i64 4) ∧ w = w' := by
  go_enter Tryz.func70, Tryz.ntmps70
  go_wp2
  go_ret
  exact ⟨by kernel_rfl, rfl⟩
set_option maxRecDepth 100000 in
theorem len64_10s (w : World) : Calls Tryz.prog 70 #[.int .u64 10] w fun e w' => e = .returned (.int .i64 4) ∧ w = w' := by
  go_enter Tryz.func70, Tryz.ntmps70
  go_wp2
  go_ret
  exact ⟨by kernel_rfl, rfl⟩
set_option maxRecDepth 100000 in
theorem len64_11s (w : World) : Calls Tryz.prog 70 #[.int .u64 11] w fun e w' => e = .returned (.int .i64 4) ∧ w = w' := by
  go_enter Tryz.func70, Tryz.ntmps70
  go_wp2
  go_ret
  exact ⟨by kernel_rfl, rfl⟩
set_option maxRecDepth 100000 in
theorem len64_12s (w : World) : Calls Tryz.prog 70 #[.int .u64 12] w fun e w' => e = .returned (.int .i64 4) ∧ w = w' := by
  go_enter Tryz.func70, Tryz.ntmps70
  go_wp2
  go_ret
  exact ⟨by kernel_rfl, rfl⟩
theorem len64_small (n : Nat) (hn : n ≤ 12) (w : World) : Calls Tryz.prog 70 #[.int .u64 (n : Int)] w fun e w' => (∃ v : Nat, e = .returned (.int .i64 (v : Int)) ∧ v ≤ 4) ∧ w = w' := by
  match n, hn with
  | 0, _ => exact (len64_0s w).mono fun e w' h => ⟨⟨0, h.1, by decide⟩, h.2⟩
  | 1, _ => exact (len64_1s w).mono fun e w' h => ⟨⟨1, h.1, by decide⟩, h.2⟩
  | 2, _ => exact (len64_2s w).mono fun e w' h => ⟨⟨2, h.1, by decide⟩, h.2⟩
  | 3, _ => exact (len64_3s w).mono fun e w' h => ⟨⟨2, h.1, by decide⟩, h.2⟩
  | 4, _ => exact (len64_4s w).mono fun e w' h => ⟨⟨3, h.1, by decide⟩, h.2⟩
  | 5, _ => exact (len64_5s w).mono fun e w' h => ⟨⟨3, h.1, by decide⟩, h.2⟩
  | 6, _ => exact (len64_6s w).mono fun e w' h => ⟨⟨3, h.1, by decide⟩, h.2⟩
  | 7, _ => exact (len64_7s w).mono fun e w' h => ⟨⟨3, h.1, by decide⟩, h.2⟩
  | 8, _ => exact (len64_8s w).mono fun e w' h => ⟨⟨4, h.1, by decide⟩, h.2⟩
  | 9, _ => exact (len64_9s w).mono fun e w' h => ⟨⟨4, h.1, by decide⟩, h.2⟩
  | 10, _ => exact (len64_10s w).mono fun e w' h => ⟨⟨4, h.1, by decide⟩, h.2⟩
  | 11, _ => exact (len64_11s w).mono fun e w' h => ⟨⟨4, h.1, by decide⟩, h.2⟩
  | 12, _ => exact (len64_12s w).mono fun e w' h => ⟨⟨4, h.1, by decide⟩, h.2⟩
theorem len_small (n : Nat) (hn : n ≤ 12) (w : World) : Calls Tryz.prog 54 #[.int .u64 (n : Int)] w fun e w' => (∃ v : Nat, e = .returned (.int .i64 (v : Int)) ∧ v ≤ 4) ∧ w = w' := by
  have C := kept (fun W => len64_small n hn W)
  go_enter Tryz.func54, Tryz.ntmps54
  go_wp2_with fail
  refine (C.out w).mono ?_
  rintro e w1 ⟨⟨v, rfl, hv⟩, rfl⟩
  go_wp2_with fail
  go_ret
  exact ⟨⟨v, rfl, hv⟩, rfl⟩
set_option maxRecDepth 100000 in
theorem pdq_small (base : Nat) (A : Option Addr) (c : Nat) (l : List Nat) (v : Nat) (w : World) (h : Own w base 33 (.slice A l.length c) (WB l)) (hsz : l.length ≤ 12) :
    Calls Tryz.prog 53 #[.slice A l.length c, .int .i64 0, .int .i64 (l.length : Int), .int .i64 (v : Int)] w fun e w' => e = .returned (.tuple #[]) ∧ ∃ l', l'.Perm l ∧ l'.Pairwise (· ≤ ·) ∧ Own w' base 33 (.slice A l.length c) (WB l') ∧ Upd (fun k => (Value.slice A l.length c).ownBlock = some k) w w' := by
  have C := kept (ins_own base A c l w h (by omega))
  have h1 : IntKind.i64.wrap ((l.length : Int) - 0) = (l.length : Int) := by rw [IntKind.wrap_i64]; omega
  have h2 : (l.length : Int) ≤ 12 := by omega
  clear h
  generalize hn : l.length = n at *
  go_enter Tryz.func53, Tryz.ntmps53
  go_wp2_with fail
  go_loopw [1, 2] (fun a b wr => a = .int .i64 0 ∧ b = .int .i64 (n : Int) ∧ wr = w) (fun _ _ _ => 0)
  case atStart => exact ⟨rfl, rfl, rfl⟩
  case round =>
    obtain ⟨rfl, rfl, rfl⟩ := hrel
    go_wp2_with fail
    refine C.out.mono ?_
    rintro e w1 ⟨rfl, hl⟩
    go_wp2_with fail
    exact bodyPost_ret (results_none rfl _ _ _) rfl ⟨rfl, hl⟩
theorem sort_small (base : Nat) (A : Option Addr) (c : Nat) (l : List Nat) (w : World) (h : Own w base 33 (.slice A l.length c) (WB l)) (hsz : l.length ≤ 12) :
    Calls Tryz.prog 44 #[.slice A l.length c] w fun e w' => e = .returned (.tuple #[]) ∧ ∃ l', l'.Perm l ∧ l'.Pairwise (· ≤ ·) ∧ Own w' base 33 (.slice A l.length c) (WB l') ∧ Upd (fun k => (Value.slice A l.length c).ownBlock = some k) w w' := by
  have CL := kept (len_small l.length hsz w)
  have C := kept (fun v : Nat => pdq_small base A c l v w h hsz)
  have h2 : l.length ≤ 12 := hsz
  have h3 : IntKind.u64.wrap (l.length : Int) = (l.length : Int) := by rw [IntKind.wrap_u64]; omega
  clear h hsz
  generalize hn : l.length = n at *
  go_enter Tryz.func44, Tryz.ntmps44
  go_wp2_with fail
  refine CL.out.mono ?_
  rintro e w1 ⟨⟨v, rfl, hv⟩, rfl⟩
  go_wp2_with fail
  refine (C.out v).mono ?_
  rintro e w1 ⟨rfl, hl⟩
  go_wp2_with fail
  go_end0
  exact ⟨rfl, hl⟩
end Go.Proofs.YtfkfpanhbanljaaGreat.SortW
