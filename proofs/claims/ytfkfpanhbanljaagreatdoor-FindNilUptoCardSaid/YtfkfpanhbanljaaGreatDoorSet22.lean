import Derived.Test.YtfkfpanhbanljaaGreatDoorTwinRow
import Derived.Test.YtfkfpanhbanljaaGreatDoorSet17
import Derived.BigQuiet
import Derived.Deep.DeepCutAuto
import Derived.Test.YtfkfpanhbanljaaGreatDoorMem
/- Layer 47 (twin): two groups of numbers compared. -/
namespace Go.Proofs.YtfkfpanhbanljaaGreatDoor.Twin
open Go.RowKit Go.Proofs.YtfkfpanhbanljaaGreatDoor.Mem

/-- how two numbers stand -/
def cmpN (x y : Nat) : Int := if x < y then -1 else if y < x then 1 else 0
/-- how two rows of numbers stand -/
def cmpL : List Nat → List Nat → Int
  | [], [] => 0
  | [], _ :: _ => -1
  | _ :: _, [] => 1
  | x :: a, y :: b => if cmpN x y = 0 then cmpL a b else cmpN x y
theorem cmpN_zero {x y : Nat} : cmpN x y = 0 ↔ x = y := by
  unfold cmpN
  constructor
  · intro h
    split at h
    · omega
    · split at h
      · omega
      · omega
  · rintro rfl; simp
theorem cmpL_neg : ∀ (a b : List Nat), decide (cmpL a b < 0) = aheadL a b
  | [], [] => rfl
  | [], _ :: _ => rfl
  | _ :: _, [] => rfl
  | x :: a, y :: b => by
    unfold cmpL aheadL
    by_cases e : x = y
    · rw [if_pos e, if_pos (cmpN_zero.2 e)]; exact cmpL_neg a b
    · rw [if_neg e, if_neg (fun h => e (cmpN_zero.1 h))]
      unfold cmpN
      rw [decide_eq_decide]
      split
      · exact ⟨fun _ => by assumption, fun _ => by omega⟩
      · split
        · exact ⟨fun h => by omega, fun h => by omega⟩
        · omega
theorem cmpL_at {a b : List Nat} {k x y : Nat} (hx : a[k]? = some x) (hy : b[k]? = some y) : cmpL (a.drop k) (b.drop k) = if cmpN x y = 0 then cmpL (a.drop (k + 1)) (b.drop (k + 1)) else cmpN x y := by
  obtain ⟨h1, h2⟩ := List.getElem?_eq_some_iff.1 hx
  obtain ⟨h3, h4⟩ := List.getElem?_eq_some_iff.1 hy
  rw [List.drop_eq_getElem_cons h1, List.drop_eq_getElem_cons h3, h2, h4]
  rfl
theorem cmpL_end1 {a b : List Nat} {k x : Nat} (hx : a[k]? = some x) (hb : b.length ≤ k) : cmpL (a.drop k) (b.drop k) = 1 := by
  obtain ⟨h1, h2⟩ := List.getElem?_eq_some_iff.1 hx
  rw [List.drop_eq_getElem_cons h1, List.drop_eq_nil_of_le hb]
  rfl
theorem cmpL_end {a b : List Nat} {k : Nat} (ha : a.length ≤ k) (hk : k ≤ a.length) : cmpL (a.drop k) (b.drop k) = if a.length < b.length then -1 else 0 := by
  rw [List.drop_eq_nil_of_le ha]
  split
  · cases h : b.drop k with
    | nil => rw [List.drop_eq_nil_iff] at h; omega
    | cons _ _ => rfl
  · rw [List.drop_eq_nil_of_le (by omega)]; rfl
theorem compareN_any (x y : Nat) (w : World) : Calls Tryz.prog 60 #[.int .u64 (x : Int), .int .u64 (y : Int)] w fun e w' => e = .returned (.int .i64 (cmpN x y)) ∧ w = w' := by
  unfold cmpN
  by_cases h1 : x < y
  · rw [if_pos h1]
    have d1 : (x : Int) < (y : Int) := by omega
    clear h1
    go_enter Tryz.func60, Tryz.ntmps60
    go_wp2_with fail
    refine (SortW.isNaN_any x _).mono ?_
    rintro e w1 ⟨rfl, rfl⟩
    go_wp2_with fail
    refine (SortW.isNaN_any y _).mono ?_
    rintro e w1 ⟨rfl, rfl⟩
    go_wp2_with fail
    go_ret
    exact ⟨rfl, rfl⟩
  · rw [if_neg h1]
    have d1 : ¬ (x : Int) < (y : Int) := by omega
    by_cases h2 : y < x
    · rw [if_pos h2]
      have d2 : (y : Int) < (x : Int) := by omega
      clear h1 h2
      go_enter Tryz.func60, Tryz.ntmps60
      go_wp2_with fail
      refine (SortW.isNaN_any x _).mono ?_
      rintro e w1 ⟨rfl, rfl⟩
      go_wp2_with fail
      refine (SortW.isNaN_any y _).mono ?_
      rintro e w1 ⟨rfl, rfl⟩
      go_wp2_with fail
      go_ret
      exact ⟨rfl, rfl⟩
    · rw [if_neg h2]
      have d2 : ¬ (y : Int) < (x : Int) := by omega
      clear h1 h2
      go_enter Tryz.func60, Tryz.ntmps60
      go_wp2_with fail
      refine (SortW.isNaN_any x _).mono ?_
      rintro e w1 ⟨rfl, rfl⟩
      go_wp2_with fail
      refine (SortW.isNaN_any y _).mono ?_
      rintro e w1 ⟨rfl, rfl⟩
      go_wp2_with fail
      go_ret
      exact ⟨rfl, rfl⟩
set_option maxRecDepth 100000 in
theorem cmpf_any (A B : Option Addr) (a b : List Nat) (ca cb : Nat) (w : World) (ha : Mem.Rd w w.heap.size A (WB a)) (hb : Mem.Rd w w.heap.size B (WB b)) (hla : a.length ≤ 1000000000) (_hlb : b.length ≤ 1000000000) :
    Calls Tryz.prog 59 #[.slice A a.length ca, .slice B b.length cb, .func (.func 60) #[] #[]] w fun e w' => e = .returned (.int .i64 (cmpL a b)) ∧ w = w' := by
  have HA := kept ha
  have HB := kept hb
  have HR : Kept (cmpL a b = cmpL (a.drop 0) (b.drop 0)) := ⟨rfl⟩
  generalize hcm : cmpL a b = cm at *
  clear ha hb hcm
  go_enter Tryz.func59, Tryz.ntmps59
  go_wp2_with fail
  go_loopw [13] (fun i wr => ∃ k : Nat, k ≤ a.length ∧ i = .int .i64 (k : Int) ∧ Kept (cm = cmpL (a.drop k) (b.drop k)) ∧ w = wr) (fun i _ => a.length - (intOf i).toNat)
  case atStart => exact ⟨0, Nat.zero_le _, rfl, HR, rfl⟩
  case round =>
    clear HR
    obtain ⟨k, hk, rfl, HR, rfl⟩ := hrel
    by_cases hlt : k < a.length
    · have hkn : (k : Int) < (a.length : Int) := by omega
      have hx : a[k]? = some (a.getD k 0) := by simp [List.getD, hlt]
      have hxw := WB_get a k hlt
      obtain ⟨b1, o1, rfl, hb1, hc1⟩ := HA.out.at_ hxw
      by_cases hlb2 : k < b.length
      · have hge : ¬ (b.length : Int) ≤ (k : Int) := by omega
        have hkb : (k : Int) < (b.length : Int) := by omega
        have hy : b[k]? = some (b.getD k 0) := by simp [List.getD, hlb2]
        have hyw := WB_get b k hlb2
        obtain ⟨b2, o2, rfl, hb2, hc2⟩ := HB.out.at_ hyw
        have hst := cmpL_at hx hy
        have CN := kept (compareN_any (a.getD k 0) (b.getD k 0) w)
        have HST := kept (HR.out.trans hst)
        clear hx hy hxw hyw hst HR
        generalize a.getD k 0 = x at *
        generalize b.getD k 0 = y at *
        by_cases hz : cmpN x y = 0
        · have HN : Kept (cm = cmpL (a.drop (k + 1)) (b.drop (k + 1))) := ⟨by rw [HST.out, if_pos hz]⟩
          rw [hz] at CN
          clear HST hz
          go_wp2_with fail
          refine CN.out.mono ?_
          rintro e w1 ⟨rfl, rfl⟩
          go_wp2_with fail
          go_roundw
          case rel => exact ⟨k + 1, by omega, by go_num, HN, trivial⟩
          case measure => simp [intOf]; omega
        · have HN : Kept (cm = cmpN x y) := ⟨by rw [HST.out, if_neg hz]⟩
          have hne : (cmpN x y != 0) = true := by simpa using hz
          generalize cmpN x y = z at *
          clear HST hz
          go_wp2_with fail
          refine CN.out.mono ?_
          rintro e w1 ⟨rfl, rfl⟩
          go_wp2_with fail
          go_ret
          rw [HN.out]
          exact ⟨rfl, rfl⟩
      · have hge : (b.length : Int) ≤ (k : Int) := by omega
        have HN : Kept (cm = 1) := ⟨by rw [HR.out, cmpL_end1 hx (by omega)]⟩
        clear hx hxw HR
        go_wp2_with fail
        go_ret
        rw [HN.out]
        exact ⟨rfl, rfl⟩
    · obtain rfl : k = a.length := by omega
      have HN := kept (HR.out.trans (cmpL_end (Nat.le_refl _) (Nat.le_refl _)))
      have hkn : ¬ (a.length : Int) < (a.length : Int) := by omega
      clear HR
      by_cases hab : a.length < b.length
      · have h1 : (a.length : Int) < (b.length : Int) := by omega
        have HN2 : Kept (cm = -1) := ⟨by rw [HN.out, if_pos hab]⟩
        clear HN hab
        go_wp2_with fail
        go_ret
        rw [HN2.out]
        exact ⟨rfl, rfl⟩
      · have h1 : ¬ (a.length : Int) < (b.length : Int) := by omega
        have HN2 : Kept (cm = 0) := ⟨by rw [HN.out, if_neg hab]⟩
        clear HN hab
        go_wp2_with fail
        go_ret
        rw [HN2.out]
        exact ⟨rfl, rfl⟩
theorem gcmp_any (x y : GrpM) (w : World) (hx : Mem.Rd w w.heap.size x.A (WB x.l)) (hy : Mem.Rd w w.heap.size y.A (WB y.l)) (hlx : x.l.length ≤ 1000000000) (hly : y.l.length ≤ 1000000000) :
    Calls Tryz.prog 58 #[x.val, y.val] w fun e w' => e = .returned (.int .i64 (cmpL x.l y.l)) ∧ w = w' := by
  have C := kept (cmpf_any x.A y.A x.l y.l x.c y.c w hx hy hlx hly)
  unfold GrpM.val
  clear hx hy
  go_enter Tryz.func58, Tryz.ntmps58
  go_wp2_with fail
  refine C.out.mono ?_
  rintro e w1 ⟨rfl, rfl⟩
  go_wp2_with fail
  go_ret
  exact ⟨rfl, rfl⟩
end Go.Proofs.YtfkfpanhbanljaaGreatDoor.Twin

/- Insertion by exchanges, over any kind of elements: the plain law. -/
namespace Go.Proofs.YtfkfpanhbanljaaGreatDoor.SortG

/-- an element and the one ahead of it, exchanged -/
def swapL {α : Type} (z : α) (xs : List α) (j : Nat) : List α := (xs.set j (xs.getD (j - 1) z)).set (j - 1) (xs.getD j z)
theorem split2 {α : Type} {xs : List α} {j : Nat} (h1 : 1 ≤ j) (h2 : j < xs.length) : ∃ L a b R, xs = L ++ a :: b :: R ∧ L.length + 1 = j := by
  refine ⟨xs.take (j - 1), xs[j - 1]'(by omega), xs[j], xs.drop (j + 1), ?_, by rw [List.length_take]; omega⟩
  have e1 : xs.drop (j - 1) = xs[j - 1]'(by omega) :: xs.drop j := by
    rw [List.drop_eq_getElem_cons (by omega)]
    congr 2
    omega
  rw [← List.drop_eq_getElem_cons h2, ← e1, List.take_append_drop]
theorem swap_split {α : Type} (z : α) (L R : List α) (a b : α) : swapL z (L ++ a :: b :: R) (L.length + 1) = L ++ b :: a :: R := by
  unfold swapL
  rw [Nat.add_sub_cancel]
  have g1 : (L ++ a :: b :: R).getD L.length z = a := by simp [List.getD]
  have g2 : (L ++ a :: b :: R).getD (L.length + 1) z = b := by simp [List.getD]
  rw [g1, g2, List.set_append_right _ _ (by omega), List.set_append_right _ _ (by omega)]
  simp
theorem swap_perm {α : Type} {z : α} {xs : List α} {j : Nat} (h1 : 1 ≤ j) (h2 : j < xs.length) : (swapL z xs j).Perm xs := by
  obtain ⟨L, a, b, R, rfl, rfl⟩ := split2 h1 h2
  rw [swap_split]
  exact (List.Perm.swap a b R).append_left L
theorem swap_get {α : Type} {z : α} {xs : List α} {j : Nat} (h1 : 1 ≤ j) (h2 : j < xs.length) (q : Nat) : (swapL z xs j).getD q z = if q = j then xs.getD (j - 1) z else if q = j - 1 then xs.getD j z else xs.getD q z := by
  unfold swapL
  simp only [List.getD_eq_getElem?_getD, List.getElem?_set, List.length_set]
  by_cases e1 : q = j
  · subst e1
    rw [if_neg (by omega), if_pos rfl, if_pos h2, if_pos rfl]; rfl
  · by_cases e2 : q = j - 1
    · subst e2
      rw [if_pos rfl, if_pos (by omega), if_neg (by omega), if_pos rfl]; rfl
    · rw [if_neg (fun e => e2 e.symm), if_neg (fun e => e1 e.symm), if_neg e1, if_neg e2]
theorem swap_len {α : Type} (z : α) (xs : List α) (j : Nat) : (swapL z xs j).length = xs.length := by simp [swapL]
/-- the first i are in order -/
def UpTo {α : Type} (z : α) (le : α → α → Prop) (xs : List α) (i : Nat) : Prop := ∀ p q, p < q → q < i → le (xs.getD p z) (xs.getD q z)
/-- all up to place i are in order, but that at place j with those ahead of it -/
def But {α : Type} (z : α) (le : α → α → Prop) (xs : List α) (i j : Nat) : Prop := ∀ p q, p < q → q ≤ i → q ≠ j → le (xs.getD p z) (xs.getD q z)
theorem but_start {α : Type} {z : α} {le : α → α → Prop} {xs : List α} {i : Nat} (h : UpTo z le xs i) : But z le xs i i := fun p q h1 h2 h3 => h p q h1 (by omega)
theorem but_end {α : Type} {z : α} {le : α → α → Prop} (tr : ∀ a b c, le a b → le b c → le a c) {xs : List α} {i j : Nat} (h : But z le xs i j) (hj : j ≤ i) (he : j = 0 ∨ le (xs.getD (j - 1) z) (xs.getD j z)) : UpTo z le xs (i + 1) := fun p q h1 h2 => by
  by_cases e : q = j
  · subst e
    rcases he with he | he
    · omega
    · by_cases e2 : p = q - 1
      · subst e2; exact he
      · exact tr _ _ _ (h p (q - 1) (by omega) (by omega) (by omega)) he
  · exact h p q h1 (by omega) e
theorem but_swap {α : Type} {z : α} {le : α → α → Prop} {xs : List α} {i j : Nat} (h : But z le xs i j) (h1 : 1 ≤ j) (hj : j ≤ i) (h2 : i < xs.length) (hl : le (xs.getD j z) (xs.getD (j - 1) z)) : But z le (swapL z xs j) i (j - 1) := fun p q hp hq hne => by
  rw [swap_get h1 (by omega), swap_get h1 (by omega)]
  rw [if_neg hne (c := q = j - 1)]
  by_cases e1 : q = j
  · subst e1
    rw [if_pos rfl, if_neg (show ¬ p = q by omega)]
    by_cases e2 : p = q - 1
    · rw [if_pos e2]; exact hl
    · rw [if_neg e2]; exact h p (q - 1) (by omega) (by omega) (by omega)
  · rw [if_neg e1]
    by_cases e2 : p = j
    · rw [if_pos e2]; exact h (j - 1) q (by omega) hq e1
    · rw [if_neg e2]
      by_cases e3 : p = j - 1
      · rw [if_pos e3]; exact h j q (by omega) hq e1
      · rw [if_neg e3]; exact h p q hp hq e1
theorem upTo_pairwise {α : Type} {z : α} {le : α → α → Prop} {xs : List α} (h : UpTo z le xs xs.length) : xs.Pairwise le := List.pairwise_iff_getElem.2 fun p q hp hq hpq => by
  have := h p q hpq hq
  simpa [List.getD, hp, hq] using this
end Go.Proofs.YtfkfpanhbanljaaGreatDoor.SortG
