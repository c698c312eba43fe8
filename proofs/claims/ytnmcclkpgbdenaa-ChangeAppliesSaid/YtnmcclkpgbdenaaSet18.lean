import Derived.Test.YtnmcclkpgbdenaaRegMath
import Derived.Test.YtnmcclkpgbdenaaMemK
import Derived.Test.YtnmcclkpgbdenaaSet4
import Derived.Deep.RegionHeld3
import Derived.Deep.RegionWith
import Derived.Deep.DeepCutAuto
import Derived.Test.YtnmcclkpgbdenaaChgGood
/- Layer 14 (reg): how two values stand: the walks of cmp.Compare, cmp.Or, the program's comparison and the document's. -/
namespace Go.Proofs.Ytnmcclkpgbdenaa.Reg
open Go.RowKit Go.Proofs.Ytnmcclkpgbdenaa.Mem Go.Proofs.Ytnmcclkpgbdenaa.Card Go.Proofs.Ytnmcclkpgbdenaa.LaidS

def cmpI (a b : Nat) : Int := if a < b then -1 else if b < a then 1 else 0
theorem cmp64_any (a b : Nat) (w : World) : Calls Try.prog 50 #[.int .u64 (a : Int), .int .u64 (b : Int)] w fun e w' => e = .returned (.int .i64 (cmpI a b)) ∧ w = w' := by
  have hc : Kept (a < b → cmpI a b = -1) ∧ Kept (b < a → cmpI a b = 1) ∧ Kept (a = b → cmpI a b = 0) := by
    refine ⟨⟨fun h => ?_⟩, ⟨fun h => ?_⟩, ⟨fun h => ?_⟩⟩ <;> unfold cmpI
    · rw [if_pos h]
    · rw [if_neg (by omega), if_pos h]
    · rw [if_neg (by omega), if_neg (by omega)]
  obtain ⟨h1, h2, h3⟩ := hc
  have hcs : a < b ∨ b < a ∨ a = b := by omega
  rcases hcs with h | h | h
  · have H := kept (h1.out h)
    clear h1 h2 h3
    have hx : ¬ b < a := by omega
    go_enter Try.func50, Try.ntmps50
    go_wp2
    go_ret
    exact ⟨ret_num H.out.symm, rfl⟩
  · have H := kept (h2.out h)
    clear h1 h2 h3
    have hx : ¬ a < b := by omega
    go_enter Try.func50, Try.ntmps50
    go_wp2
    go_ret
    exact ⟨ret_num H.out.symm, rfl⟩
  · have H := kept (h3.out h)
    clear h1 h2 h3
    subst h
    go_enter Try.func50, Try.ntmps50
    go_wp2
    go_ret
    exact ⟨ret_num H.out.symm, rfl⟩
theorem cmp16_any (a b : Nat) (w : World) : Calls Try.prog 51 #[.int .u16 (a : Int), .int .u16 (b : Int)] w fun e w' => e = .returned (.int .i64 (cmpI a b)) ∧ w = w' := by
  have hc : Kept (a < b → cmpI a b = -1) ∧ Kept (b < a → cmpI a b = 1) ∧ Kept (a = b → cmpI a b = 0) := by
    refine ⟨⟨fun h => ?_⟩, ⟨fun h => ?_⟩, ⟨fun h => ?_⟩⟩ <;> unfold cmpI
    · rw [if_pos h]
    · rw [if_neg (by omega), if_pos h]
    · rw [if_neg (by omega), if_neg (by omega)]
  obtain ⟨h1, h2, h3⟩ := hc
  have hcs : a < b ∨ b < a ∨ a = b := by omega
  rcases hcs with h | h | h
  · have H := kept (h1.out h)
    clear h1 h2 h3
    have hx : ¬ b < a := by omega
    go_enter Try.func51, Try.ntmps51
    go_wp2
    go_ret
    exact ⟨ret_num H.out.symm, rfl⟩
  · have H := kept (h2.out h)
    clear h1 h2 h3
    have hx : ¬ a < b := by omega
    go_enter Try.func51, Try.ntmps51
    go_wp2
    go_ret
    exact ⟨ret_num H.out.symm, rfl⟩
  · have H := kept (h3.out h)
    clear h1 h2 h3
    subst h
    go_enter Try.func51, Try.ntmps51
    go_wp2
    go_ret
    exact ⟨ret_num H.out.symm, rfl⟩
def orI (a b : Int) : Int := if a ≠ 0 then a else b
theorem or_any (g c : Nat) (a b : Int) (w : World) (h0 : w.cell? ⟨g, 0, none⟩ = some (.int .i64 a)) (h1 : w.cell? ⟨g, 1, none⟩ = some (.int .i64 b)) (hg : g < w.heap.size) :
    Calls Try.prog 49 #[.slice (some ⟨g, 0, none⟩) 2 c] w fun e w' => e = .returned (.int .i64 (orI a b)) ∧ w = w' := by
  by_cases ha : a = 0
  · subst ha
    have H : Kept (orI 0 b = b) := ⟨rfl⟩
    go_enter Try.func49, Try.ntmps49
    go_wp2
    go_loop [8] (fun i => ∃ j : Nat, j ≤ 2 ∧ i = .int .i64 (j : Int) ∧ Kept (j = 2 → b = 0)) (fun i => 2 - (intOf i).toNat)
    case atStart => exact ⟨0, by omega, rfl, ⟨fun h => by cases h⟩⟩
    case round =>
      obtain ⟨j, hj, rfl, hin⟩ := hrel
      have hjc : j = 0 ∨ j = 1 ∨ j = 2 := by omega
      rcases hjc with rfl | rfl | rfl
      · go_wp2
        go_round
        case rel => exact ⟨1, by omega, rfl, ⟨fun h => by cases h⟩⟩
        case measure => simp [intOf]
      · by_cases hb : b = 0
        · subst hb
          go_wp2
          go_round
          case rel => exact ⟨2, by omega, rfl, ⟨by simp⟩⟩
          case measure => simp [intOf]
        · have hbb : (b != 0) = true := by simpa using hb
          go_wp2
          go_ret
          exact ⟨ret_num H.out.symm, rfl⟩
      · have hb := kept (hin.out rfl)
        clear hin
        go_wp2
        go_ret
        exact ⟨ret_num (by rw [H.out]; exact hb.out.symm), rfl⟩
  · have hab : (a != 0) = true := by simpa using ha
    have H : Kept (orI a b = a) := ⟨if_pos ha⟩
    clear ha
    go_enter Try.func49, Try.ntmps49
    go_wp2
    go_loop [8] (fun i => i = .int .i64 0) (fun i => 2 - (intOf i).toNat)
    case atStart => trivial
    case round =>
      subst hrel
      go_wp2
      go_ret
      exact ⟨ret_num H.out.symm, rfl⟩
/-- how the program compares two values -/
def cmpV (x y : ValM) : Int := orI (cmpI x.n y.n) (cmpI x.dev y.dev)
theorem cmpV_pos (x y : ValM) : decide (cmpV x y > 0) = ahead x y := by
  unfold cmpV orI cmpI
  rw [Bool.eq_iff_iff, decide_eq_true_eq, ahead_iff]
  by_cases h1 : x.n < y.n
  · rw [if_pos h1]; simp; omega
  · by_cases h2 : y.n < x.n
    · rw [if_neg h1, if_pos h2]; simp [h2]
    · rw [if_neg h1, if_neg h2]
      by_cases h3 : x.dev < y.dev
      · rw [if_pos h3]; simp; omega
      · by_cases h4 : y.dev < x.dev
        · rw [if_neg h3, if_pos h4]; simp; omega
        · rw [if_neg h3, if_neg h4]; simp; omega
def ValM.cells (x : ValM) : List Value := [.int .u16 (x.dev : Int), .int .u64 (x.n : Int), .string x.t]
def ValM.val (x : ValM) : Value := .agg #[.int .u16 (x.dev : Int), .int .u64 (x.n : Int), .string x.t]
theorem clov_any (x y : ValM) (w : World) : Calls Try.prog 48 #[x.val, y.val] w fun e w' => e = .returned (.int .i64 (cmpV x y)) ∧ Below w.heap.size w w' := by
  obtain ⟨xd, xn, xt⟩ := x
  obtain ⟨yd, yn, yt⟩ := y
  have HC : Kept (cmpV ⟨xd, xn, xt⟩ ⟨yd, yn, yt⟩ = orI (cmpI xn yn) (cmpI xd yd)) := ⟨rfl⟩
  have CA := kept (fun W => cmp64_any xn yn W)
  have CB := kept (fun W => cmp16_any xd yd W)
  have CO := kept (fun g c W h0 h1 hg => or_any g c (cmpI xn yn) (cmpI xd yd) W h0 h1 hg)
  generalize cmpI xn yn = p at *
  generalize cmpI xd yd = q at *
  have k1 := Blk.new w [.int .u16 (xd : Int), .int .u64 (xn : Int), .string xt] 48
  have hb1 := (Below.refl w.heap.size w).alloc (Nat.le_refl _) (.cells #[.int .u16 (xd : Int), .int .u64 (xn : Int), .string xt] 48)
  have k2 := Blk.new (w.alloc (.cells #[.int .u16 (xd : Int), .int .u64 (xn : Int), .string xt] 48)) [.int .u16 (yd : Int), .int .u64 (yn : Int), .string yt] 48
  have k3 := (Blk.newAt ((w.alloc (.cells #[.int .u16 (xd : Int), .int .u64 (xn : Int), .string xt] 48)).alloc (.cells #[.int .u16 (yd : Int), .int .u64 (yn : Int), .string yt] 48)) [.int .i64 p, .int .i64 q] 3 (g := w.heap.size + 1 + 1) (by simp)).drew
  have CO3 := kept (CO.out (w.heap.size + 1 + 1) 2 _ (k3.cell (j := 0) rfl) (k3.cell (j := 1) rfl) k3.lt)
  have HB3 := kept (((hb1.alloc (by simp) (.cells #[.int .u16 (yd : Int), .int .u64 (yn : Int), .string yt] 48)).alloc (by simp; omega) (.cells #[.int .i64 p, .int .i64 q] 3)).drew)
  clear k1 k2 k3 hb1 CO
  unfold ValM.val
  dsimp only
  go_enter Try.func48, Try.ntmps48
  go_upto_region 1 with fail
  go_region_held3 (fun W => W.cell? ⟨w.heap.size, 0, none⟩ = some (.int .u16 (xd : Int)) ∧ W.cell? ⟨w.heap.size, 1, none⟩ = some (.int .u64 (xn : Int)) ∧ W.cell? ⟨w.heap.size + 1, 0, none⟩ = some (.int .u16 (yd : Int)) ∧ W.cell? ⟨w.heap.size + 1, 1, none⟩ = some (.int .u64 (yn : Int))) (go_keep) (first
    | (go_at_call 50; ((with_reducible refine (CA.out _).mono ?_); rintro e x1 ⟨rfl, rfl⟩))
    | (go_at_call 51; ((with_reducible refine (CB.out _).mono ?_); rintro e x1 ⟨rfl, rfl⟩))
    | (go_at_call 49; ((with_reducible refine CO3.out.mono ?_); rintro e x1 ⟨rfl, rfl⟩)))
  go_wp2_with fail
  go_ret
  exact ⟨by rw [HC.out]; rfl, HB3.out⟩
end Go.Proofs.Ytnmcclkpgbdenaa.Reg

/- Layer 50 (change): a card's place in a list in order: slices.BinarySearchFunc over cards; change.at. -/
namespace Go.Proofs.Ytnmcclkpgbdenaa.Chg
open Go.RowKit Go.Proofs.Ytnmcclkpgbdenaa.Mem Go.Proofs.Ytnmcclkpgbdenaa.Card

/-- cards in order by number -/
def SortedC (l : List CardM) : Prop := ∀ (i j : Nat) (x y : CardM), l[i]? = some x → l[j]? = some y → i < j → x.cid < y.cid
/-- where a number stands, or would stand -/
def PosAt (l : List CardM) (t i : Nat) : Prop := i ≤ l.length ∧ (∀ (j : Nat) (x : CardM), l[j]? = some x → j < i → x.cid < t) ∧ (∀ (j : Nat) (x : CardM), l[j]? = some x → i ≤ j → t ≤ x.cid)
def isAt (l : List CardM) (t i : Nat) : Bool := match l[i]? with
  | some x => decide (x.cid = t)
  | none => false
theorem at1_any (x : CardM) (t : Nat) (w : World) :
    Calls Try.prog 106 #[x.val, .int .u64 (t : Int)] w fun e w' => e = .returned (.int .i64 (Reg.cmpI x.cid t)) ∧ Below w.heap.size w w' := by
  have hb : Below w.heap.size w (w.alloc (.cells #[.int .u64 (x.cid : Int), .slice x.X x.ls.length x.c] 38)) := (Below.refl _ _).alloc (Nat.le_refl _) _
  have hk := Blk.new w [.int .u64 (x.cid : Int), .slice x.X x.ls.length x.c] 38
  have q0 := hk.cell (j := 0) rfl
  have C := kept (Reg.cmp64_any x.cid t (w.alloc (.cells #[.int .u64 (x.cid : Int), .slice x.X x.ls.length x.c] 38)))
  have HB := kept hb
  unfold CardM.val
  clear hk hb
  go_enter Try.func106, Try.ntmps106
  go_wp2_with fail
  refine C.out.mono ?_
  rintro e w' ⟨rfl, rfl⟩
  go_wp2_with fail
  first | go_ret | go_ret2
  exact ⟨rfl, HB.out⟩
theorem cmpI_lt {a b : Nat} (h : a < b) : Reg.cmpI a b = -1 := by unfold Reg.cmpI; rw [if_pos h]
theorem cmpI_ge {a b : Nat} (h : ¬ a < b) : (decide (Reg.cmpI a b < 0)) = false := by
  unfold Reg.cmpI; rw [if_neg h]; split <;> rfl
theorem cmpI_eq (a b : Nat) : (Reg.cmpI a b == 0) = decide (a = b) := by
  unfold Reg.cmpI
  rcases Nat.lt_trichotomy a b with h | h | h
  · rw [if_pos h, decide_eq_false (by omega)]; rfl
  · rw [if_neg (by omega), if_neg (by omega), decide_eq_true h]; rfl
  · rw [if_neg (by omega), if_pos h, decide_eq_false (by omega)]; rfl
set_option maxRecDepth 100000 in
set_option maxHeartbeats 2000000 in
theorem bs_any (X : Option Addr) (l : List CardM) (c t : Nat) (w : World) (hr : RdCards w w.heap.size X l) (hs : SortedC l) (hsz : l.length ≤ 1000000) :
    Calls Try.prog 105 #[.slice X l.length c, .int .u64 (t : Int), .func (.func 106) #[] #[]] w fun e w' =>
      (∃ i : Nat, e = .returned (.tuple #[.int .i64 (i : Int), .bool (isAt l t i)]) ∧ PosAt l t i) ∧ Below w.heap.size w w' := by
  have HR := kept hr
  have HS := kept hs
  have HC := kept (fun (W : World) (x : CardM) => at1_any x t W)
  clear hr hs
  obtain ⟨n, hn⟩ : ∃ n, l.length = n := ⟨_, rfl⟩
  have HN := kept hn
  rw [hn] at hsz ⊢
  clear hn
  unfold CardM.val at HC
  go_enter Try.func105, Try.ntmps105
  go_wp2_with fail
  go_loopw [9, 10] (fun s9 s10 wr => ∃ lo hi : Nat, s9 = .int .i64 (lo : Int) ∧ s10 = .int .i64 (hi : Int) ∧ lo ≤ hi ∧ hi ≤ n ∧ Kept (Below w.heap.size w wr ∧ (∀ j x, l[j]? = some x → j < lo → x.cid < t) ∧ (∀ j x, l[j]? = some x → hi ≤ j → t ≤ x.cid))) (fun a b _ => (intOf b).toNat - (intOf a).toNat)
  case atStart => exact ⟨0, n, rfl, rfl, Nat.zero_le _, Nat.le_refl _, ⟨Below.refl _ _, fun j x _ h => absurd h (Nat.not_lt_zero _), fun j x h1 h2 => by have := (List.getElem?_eq_some_iff.1 h1).1; have h3 := HN.out; omega⟩⟩
  case round =>
    obtain ⟨lo, hi, rfl, rfl, hlh, hin, hI⟩ := hrel
    by_cases hlt : lo < hi
    · obtain ⟨m, hm⟩ : ∃ m, (lo + hi) / 2 = m := ⟨_, rfl⟩
      have hm1 : lo ≤ m := by omega
      have hm2 : m < hi := by omega
      have hmi : ((lo : Int) + (hi : Int)) / 2 = (m : Int) := by omega
      obtain ⟨x, hx⟩ : ∃ x, l[m]? = some x := ⟨_, List.getElem?_eq_getElem (by rw [HN.out]; omega)⟩
      obtain ⟨b, o, rfl, hbb, k0, k1, hxo⟩ := (HR.out.below hI.out.1).at_ hx
      have C := kept (HC.out wr x)
      have hmn : (m : Int) < (n : Int) := by omega
      have hm0 : (0 : Int) ≤ (m : Int) := by omega
      have hl2 : (lo : Int) < (hi : Int) := by omega
      by_cases hlx : x.cid < t
      · have H2 : Kept (∀ j y, l[j]? = some y → j < m + 1 → y.cid < t) := ⟨fun j y hy hj => by
          rcases Nat.lt_or_ge j m with h | h
          · have := HS.out j m y x hy hx h; omega
          · obtain rfl : j = m := by omega
            rw [hx] at hy; cases hy; exact hlx⟩
        rw [cmpI_lt hlx] at C
        have HI3 := kept hI.out.2.2
        have HB := kept hI.out.1
        obtain ⟨xcid, xX, xls, xc⟩ := x
        dsimp only at k0 k1 C
        clear hx hxo hI hlx
        go_wp2_with fail
        refine C.out.mono ?_
        rintro e w5 ⟨rfl, hb5⟩
        have HW := kept (HB.out.trans (hb5.mono HB.out.size))
        clear hb5 C
        go_wp2_with fail
        go_roundw
        case rel => exact ⟨m + 1, hi, by go_num, rfl, by omega, hin, ⟨HW.out, H2.out, HI3.out⟩⟩
        case measure => simp [intOf]; omega
      · have H2 : Kept (∀ j y, l[j]? = some y → m ≤ j → t ≤ y.cid) := ⟨fun j y hy hj => by
          rcases Nat.lt_or_ge m j with h | h
          · have := HS.out m j x y hx hy h; omega
          · obtain rfl : j = m := by omega
            rw [hx] at hy; cases hy; omega⟩
        have hge := cmpI_ge hlx
        have HI3 := kept hI.out.2.1
        have HB := kept hI.out.1
        obtain ⟨xcid, xX, xls, xc⟩ := x
        dsimp only at k0 k1 C hge
        generalize Reg.cmpI xcid t = v at *
        clear hx hxo hI hlx
        go_wp2_with fail
        refine C.out.mono ?_
        rintro e w5 ⟨rfl, hb5⟩
        have HW := kept (HB.out.trans (hb5.mono HB.out.size))
        clear hb5 C
        go_wp2_with fail
        go_roundw
        case rel => exact ⟨lo, m, rfl, by go_num, hm1, by omega, ⟨HW.out, HI3.out, H2.out⟩⟩
        case measure => simp [intOf]; omega
    · obtain rfl : lo = hi := by omega
      have HPO : Kept (PosAt l t lo) := ⟨by rw [HN.out]; exact hin, hI.out.2.1, hI.out.2.2⟩
      have HB := kept hI.out.1
      by_cases hn2 : lo < n
      · obtain ⟨x, hx⟩ : ∃ x, l[lo]? = some x := ⟨_, List.getElem?_eq_getElem (by rw [HN.out]; omega)⟩
        obtain ⟨b, o, rfl, hbb, k0, k1, hxo⟩ := (HR.out.below hI.out.1).at_ hx
        have C := kept (HC.out wr x)
        have HAT : Kept (isAt l t lo = decide (x.cid = t)) := ⟨by unfold isAt; rw [hx]⟩
        have hmn : (lo : Int) < (n : Int) := by omega
        have hm0 : (0 : Int) ≤ (lo : Int) := by omega
        have hv := cmpI_eq x.cid t
        obtain ⟨xcid, xX, xls, xc⟩ := x
        dsimp only at k0 k1 C HAT hv
        generalize Reg.cmpI xcid t = v at *
        generalize decide (xcid = t) = d at *
        clear hx hxo hI
        go_wp2_with fail
        refine C.out.mono ?_
        rintro e w5 ⟨rfl, hb5⟩
        have HW := kept (HB.out.trans (hb5.mono HB.out.size))
        clear hb5 C
        go_wp2_with fail
        first | go_ret | go_ret2
        exact ⟨⟨lo, by rw [HAT.out]; rfl, HPO.out⟩, HW.out⟩
      · have HAT : Kept (isAt l t lo = false) := ⟨by unfold isAt; rw [List.getElem?_eq_none (by rw [HN.out]; omega)]⟩
        clear hI
        go_wp2_with fail
        first | go_ret | go_ret2
        exact ⟨⟨lo, by rw [HAT.out]; rfl, HPO.out⟩, HB.out⟩
/-- where a card stands, or would stand -/
theorem at_any (X : Option Addr) (l : List CardM) (c t : Nat) (w : World) (hr : RdCards w w.heap.size X l) (hs : SortedC l) (hsz : l.length ≤ 1000000) :
    Calls Try.prog 81 #[.slice X l.length c, .int .u64 (t : Int)] w fun e w' =>
      (∃ i : Nat, e = .returned (.tuple #[.int .i64 (i : Int), .bool (isAt l t i)]) ∧ PosAt l t i) ∧ Below w.heap.size w w' := by
  have C := kept (bs_any X l c t w hr hs hsz)
  clear hr hs
  go_enter Try.func81, Try.ntmps81
  go_wp2_with fail
  refine C.out.mono ?_
  rintro e w5 ⟨⟨i, rfl, hp⟩, hb5⟩
  have HP := kept hp
  clear hp
  go_wp2_with fail
  first | go_ret | go_ret2
  exact ⟨⟨i, rfl, HP.out⟩, hb5⟩
end Go.Proofs.Ytnmcclkpgbdenaa.Chg

/- Layer 50 (change): a line's place among lines in order: slices.BinarySearchFunc over lines. (printed by tools/genal.py) -/
namespace Go.Proofs.Ytnmcclkpgbdenaa.Chg
open Go.RowKit Go.Proofs.Ytnmcclkpgbdenaa.Mem Go.Proofs.Ytnmcclkpgbdenaa.Card

theorem cmp8_any (a b : Nat) (w : World) : Calls Try.prog 113 #[.int .u8 (a : Int), .int .u8 (b : Int)] w fun e w' => e = .returned (.int .i64 (Reg.cmpI a b)) ∧ w = w' := by
  have hc : Kept (a < b → Reg.cmpI a b = -1) ∧ Kept (b < a → Reg.cmpI a b = 1) ∧ Kept (a = b → Reg.cmpI a b = 0) := by
    refine ⟨⟨fun h => ?_⟩, ⟨fun h => ?_⟩, ⟨fun h => ?_⟩⟩ <;> unfold Reg.cmpI
    · rw [if_pos h]
    · rw [if_neg (by omega), if_pos h]
    · rw [if_neg (by omega), if_neg (by omega)]
  obtain ⟨h1, h2, h3⟩ := hc
  have hcs : a < b ∨ b < a ∨ a = b := by omega
  rcases hcs with h | h | h
  · have H := kept (h1.out h)
    clear h1 h2 h3
    have hx : ¬ b < a := by omega
    go_enter Try.func113, Try.ntmps113
    go_wp2
    go_ret
    exact ⟨ret_num H.out.symm, rfl⟩
  · have H := kept (h2.out h)
    clear h1 h2 h3
    have hx : ¬ a < b := by omega
    go_enter Try.func113, Try.ntmps113
    go_wp2
    go_ret
    exact ⟨ret_num H.out.symm, rfl⟩
  · have H := kept (h3.out h)
    clear h1 h2 h3
    subst h
    go_enter Try.func113, Try.ntmps113
    go_wp2
    go_ret
    exact ⟨ret_num H.out.symm, rfl⟩
/-- lines in order by field -/
def SortedL (l : List LineM) : Prop := ∀ (i j : Nat) (x y : LineM), l[i]? = some x → l[j]? = some y → i < j → x.f < y.f
/-- where a number stands, or would stand -/
def PosAtL (l : List LineM) (t i : Nat) : Prop := i ≤ l.length ∧ (∀ (j : Nat) (x : LineM), l[j]? = some x → j < i → x.f < t) ∧ (∀ (j : Nat) (x : LineM), l[j]? = some x → i ≤ j → t ≤ x.f)
def isAtL (l : List LineM) (t i : Nat) : Bool := match l[i]? with
  | some x => decide (x.f = t)
  | none => false
theorem with2_any (x : LineM) (t : Nat) (w : World) :
    Calls Try.prog 112 #[x.val, .int .u8 (t : Int)] w fun e w' => e = .returned (.int .i64 (Reg.cmpI x.f t)) ∧ Below w.heap.size w w' := by
  have hb : Below w.heap.size w (w.alloc (.cells #[.int .u8 (x.f : Int), .string x.t, .slice x.A x.m.length x.c] 41)) := (Below.refl _ _).alloc (Nat.le_refl _) _
  have hk := Blk.new w [.int .u8 (x.f : Int), .string x.t, .slice x.A x.m.length x.c] 41
  have q0 := hk.cell (j := 0) rfl
  have C := kept (cmp8_any x.f t (w.alloc (.cells #[.int .u8 (x.f : Int), .string x.t, .slice x.A x.m.length x.c] 41)))
  have HB := kept hb
  unfold LineM.val
  clear hk hb
  go_enter Try.func112, Try.ntmps112
  go_wp2_with fail
  refine C.out.mono ?_
  rintro e w' ⟨rfl, rfl⟩
  go_wp2_with fail
  first | go_ret | go_ret2
  exact ⟨rfl, HB.out⟩
set_option maxRecDepth 100000 in
set_option maxHeartbeats 2000000 in
theorem bsl_any (X : Option Addr) (l : List LineM) (c t : Nat) (w : World) (hr : RdLines w w.heap.size X l) (hs : SortedL l) (hsz : l.length ≤ 1000000) :
    Calls Try.prog 111 #[.slice X l.length c, .int .u8 (t : Int), .func (.func 112) #[] #[]] w fun e w' =>
      (∃ i : Nat, e = .returned (.tuple #[.int .i64 (i : Int), .bool (isAtL l t i)]) ∧ PosAtL l t i) ∧ Below w.heap.size w w' := by
  have HR := kept hr
  have HS := kept hs
  have HC := kept (fun (W : World) (x : LineM) => with2_any x t W)
  clear hr hs
  obtain ⟨n, hn⟩ : ∃ n, l.length = n := ⟨_, rfl⟩
  have HN := kept hn
  rw [hn] at hsz ⊢
  clear hn
  unfold LineM.val at HC
  go_enter Try.func111, Try.ntmps111
  go_wp2_with fail
  go_loopw [9, 10] (fun s9 s10 wr => ∃ lo hi : Nat, s9 = .int .i64 (lo : Int) ∧ s10 = .int .i64 (hi : Int) ∧ lo ≤ hi ∧ hi ≤ n ∧ Kept (Below w.heap.size w wr ∧ (∀ j x, l[j]? = some x → j < lo → x.f < t) ∧ (∀ j x, l[j]? = some x → hi ≤ j → t ≤ x.f))) (fun a b _ => (intOf b).toNat - (intOf a).toNat)
  case atStart => exact ⟨0, n, rfl, rfl, Nat.zero_le _, Nat.le_refl _, ⟨Below.refl _ _, fun j x _ h => absurd h (Nat.not_lt_zero _), fun j x h1 h2 => by have := (List.getElem?_eq_some_iff.1 h1).1; have h3 := HN.out; omega⟩⟩
  case round =>
    obtain ⟨lo, hi, rfl, rfl, hlh, hin, hI⟩ := hrel
    by_cases hlt : lo < hi
    · obtain ⟨m, hm⟩ : ∃ m, (lo + hi) / 2 = m := ⟨_, rfl⟩
      have hm1 : lo ≤ m := by omega
      have hm2 : m < hi := by omega
      have hmi : ((lo : Int) + (hi : Int)) / 2 = (m : Int) := by omega
      obtain ⟨x, hx⟩ : ∃ x, l[m]? = some x := ⟨_, List.getElem?_eq_getElem (by rw [HN.out]; omega)⟩
      obtain ⟨b, o, rfl, hbb, k0, k1, k2, hxo⟩ := (HR.out.below hI.out.1).at_ hx
      have C := kept (HC.out wr x)
      have hmn : (m : Int) < (n : Int) := by omega
      have hm0 : (0 : Int) ≤ (m : Int) := by omega
      have hl2 : (lo : Int) < (hi : Int) := by omega
      by_cases hlx : x.f < t
      · have H2 : Kept (∀ j y, l[j]? = some y → j < m + 1 → y.f < t) := ⟨fun j y hy hj => by
          rcases Nat.lt_or_ge j m with h | h
          · have := HS.out j m y x hy hx h; omega
          · obtain rfl : j = m := by omega
            rw [hx] at hy; cases hy; exact hlx⟩
        rw [cmpI_lt hlx] at C
        have HI3 := kept hI.out.2.2
        have HB := kept hI.out.1
        obtain ⟨xcid, xt, xA, xm, xc⟩ := x
        dsimp only at k0 k1 k2 C
        clear hx hxo hI hlx
        go_wp2_with fail
        refine C.out.mono ?_
        rintro e w5 ⟨rfl, hb5⟩
        have HW := kept (HB.out.trans (hb5.mono HB.out.size))
        clear hb5 C
        go_wp2_with fail
        go_roundw
        case rel => exact ⟨m + 1, hi, by go_num, rfl, by omega, hin, ⟨HW.out, H2.out, HI3.out⟩⟩
        case measure => simp [intOf]; omega
      · have H2 : Kept (∀ j y, l[j]? = some y → m ≤ j → t ≤ y.f) := ⟨fun j y hy hj => by
          rcases Nat.lt_or_ge m j with h | h
          · have := HS.out m j x y hx hy h; omega
          · obtain rfl : j = m := by omega
            rw [hx] at hy; cases hy; omega⟩
        have hge := cmpI_ge hlx
        have HI3 := kept hI.out.2.1
        have HB := kept hI.out.1
        obtain ⟨xcid, xt, xA, xm, xc⟩ := x
        dsimp only at k0 k1 k2 C hge
        generalize Reg.cmpI xcid t = v at *
        clear hx hxo hI hlx
        go_wp2_with fail
        refine C.out.mono ?_
        rintro e w5 ⟨rfl, hb5⟩
        have HW := kept (HB.out.trans (hb5.mono HB.out.size))
        clear hb5 C
        go_wp2_with fail
        go_roundw
        case rel => exact ⟨lo, m, rfl, by go_num, hm1, by omega, ⟨HW.out, HI3.out, H2.out⟩⟩
        case measure => simp [intOf]; omega
    · obtain rfl : lo = hi := by omega
      have HPO : Kept (PosAtL l t lo) := ⟨by rw [HN.out]; exact hin, hI.out.2.1, hI.out.2.2⟩
      have HB := kept hI.out.1
      by_cases hn2 : lo < n
      · obtain ⟨x, hx⟩ : ∃ x, l[lo]? = some x := ⟨_, List.getElem?_eq_getElem (by rw [HN.out]; omega)⟩
        obtain ⟨b, o, rfl, hbb, k0, k1, k2, hxo⟩ := (HR.out.below hI.out.1).at_ hx
        have C := kept (HC.out wr x)
        have HAT : Kept (isAtL l t lo = decide (x.f = t)) := ⟨by unfold isAtL; rw [hx]⟩
        have hmn : (lo : Int) < (n : Int) := by omega
        have hm0 : (0 : Int) ≤ (lo : Int) := by omega
        have hv := cmpI_eq x.f t
        obtain ⟨xcid, xt, xA, xm, xc⟩ := x
        dsimp only at k0 k1 k2 C HAT hv
        generalize Reg.cmpI xcid t = v at *
        generalize decide (xcid = t) = d at *
        clear hx hxo hI
        go_wp2_with fail
        refine C.out.mono ?_
        rintro e w5 ⟨rfl, hb5⟩
        have HW := kept (HB.out.trans (hb5.mono HB.out.size))
        clear hb5 C
        go_wp2_with fail
        first | go_ret | go_ret2
        exact ⟨⟨lo, by rw [HAT.out]; rfl, HPO.out⟩, HW.out⟩
      · have HAT : Kept (isAtL l t lo = false) := ⟨by unfold isAtL; rw [List.getElem?_eq_none (by rw [HN.out]; omega)]⟩
        clear hI
        go_wp2_with fail
        first | go_ret | go_ret2
        exact ⟨⟨lo, by rw [HAT.out]; rfl, HPO.out⟩, HB.out⟩
end Go.Proofs.Ytnmcclkpgbdenaa.Chg
