/- Layer 14 (reg): how two values stand: the walks of cmp.Compare, cmp.Or, the program's comparison and the document's. -/
import Derived.Test.YtnmcclkpgbdenaaRegMath
import Derived.Test.YtnmcclkpgbdenaaMemK
import Derived.Test.YtnmcclkpgbdenaaCardSame
import Derived.Deep.RegionHeld3
import Derived.Deep.RegionWith
import Derived.Deep.DeepCutAuto
namespace Go.Proofs.Ytnmcclkpgbdenaa.Reg
open Go.RowKit Go.Proofs.Ytnmcclkpgbdenaa.Mem Go.Proofs.Ytnmcclkpgbdenaa.Card Go.Proofs.Ytnmcclkpgbdenaa.LaidS

def cmpI (a b : Nat) : Int := if a < b then -1 else if b < a then 1 else 0
theorem cmp64_any (a b : Nat) (w : World) : Calls Try.prog 50 #[.int .u64 (a : Int), .int .u64 (b : Int)] w fun e w' => e = .returned (.int .i64 (cmpI a b)) ∧ w = w' := by
  have hc : Kept (a < b → cmpI a b = -1) ∧ Kept (b < a → cmpI a b = 1) ∧ Kept (a = b → cmpI a b = 0) := by
    refine ⟨⟨fun h => ?_⟩, ⟨fun h => ?_⟩, ⟨fun h => ?_⟩⟩ <;> unfold cmpI
    · rw [if_pos h]
    · rw [if_neg (by omega), if_pos h]
    · rw [if_neg (by omega), if_neg (by omega)]
  obtain ⟨h1, h2, h3⟩ := hc
  have hcs : a < b ∨ b < a ∨ a = b := by omega
  rcases hcs with h | h | h
  · have H := kept (h1.out h)
    clear h1 h2 h3
    have hx : ¬ b < a := by omega
    go_enter Try.func50, Try.ntmps50
    go_wp2
    go_ret
    exact ⟨ret_num H.out.symm, rfl⟩
  · have H := kept (h2.out h)
    clear h1 h2 h3
    have hx : ¬ a < b := by omega
    go_enter Try.func50, Try.ntmps50
    go_wp2
    go_ret
    exact ⟨ret_num H.out.symm, rfl⟩
  · have H := kept (h3.out h)
    clear h1 h2 h3
    subst h
    go_enter Try.func50, Try.ntmps50
    go_wp2
    go_ret
    exact ⟨ret_num H.out.symm, rfl⟩
theorem cmp16_any (a b : Nat) (w : World) : Calls Try.prog 51 #[.int .u16 (a : Int), .int .u16 (b : Int)] w fun e w' => e = .returned (.int .i64 (cmpI a b)) ∧ w = w' := by
  have hc : Kept (a < b → cmpI a b = -1) ∧ Kept (b < a → cmpI a b = 1) ∧ Kept (a = b → cmpI a b = 0) := by
    refine ⟨⟨fun h => ?_⟩, ⟨fun h => ?_⟩, ⟨fun h => ?_⟩⟩ <;> unfold cmpI
    · rw [if_pos h]
    · rw [if_neg (by omega), if_pos h]
    · rw [if_neg (by omega), if_neg (by omega)]
  obtain ⟨h1, h2, h3⟩ := hc
  have hcs : a < b ∨ b < a ∨ a = b := by omega
  rcases hcs with h | h | h
  · have H := kept (h1.out h)
    clear h1 h2 h3
    have hx : ¬ b < a := by omega
    go_enter Try.func51, Try.ntmps51
    go_wp2
    go_ret
    exact ⟨ret_num H.out.symm, rfl⟩
  · have H := kept (h2.out h)
    clear h1 h2 h3
    have hx : ¬ a < b := by omega
    go_enter Try.func51, Try.ntmps51
    go_wp2
    go_ret
    exact ⟨ret_num H.out.symm, rfl⟩
  · have H := kept (h3.out h)
    clear h1 h2 h3
    subst h
    go_enter Try.func51, Try.ntmps51
    go_wp2
    go_ret
    exact ⟨ret_num H.out.symm, rfl⟩
def orI (a b : Int) : Int := if a ≠ 0 then a else b
theorem or_any (g c : Nat) (a b : Int) (w : World) (h0 : w.cell? ⟨g, 0, none⟩ = some (.int .i64 a)) (h1 : w.cell? ⟨g, 1, none⟩ = some (.int .i64 b)) (hg : g < w.heap.size) :
    Calls Try.prog 49 #[.slice (some ⟨g, 0, none⟩) 2 c] w fun e w' => e = .returned (.int .i64 (orI a b)) ∧ w = w' := by
  by_cases ha : a = 0
  · subst ha
    have H : Kept (orI 0 b = b) := ⟨rfl⟩
    go_enter Try.func49, Try.ntmps49
    go_wp2
    go_loop [8] (fun i => ∃ j : Nat, j ≤ 2 ∧ i = .int .i64 (j : Int) ∧ Kept (j = 2 → b = 0)) (fun i => 2 - (intOf i).toNat)
    case atStart => exact ⟨0, by omega, rfl, ⟨fun h => by cases h⟩⟩
    case round =>
      obtain ⟨j, hj, rfl, hin⟩ := hrel
      have hjc : j = 0 ∨ j = 1 ∨ j = 2 := by omega
      rcases hjc with rfl | rfl | rfl
      · go_wp2
        go_round
        case rel => exact ⟨1, by omega, rfl, ⟨fun h => by cases h⟩⟩
        case measure => simp [intOf]
      · by_cases hb : b = 0
        · subst hb
          go_wp2
          go_round
          case rel => exact ⟨2, by omega, rfl, ⟨by simp⟩⟩
          case measure => simp [intOf]
        · have hbb : (b != 0) = true := by simpa using hb
          go_wp2
          go_ret
          exact ⟨ret_num H.out.symm, rfl⟩
      · have hb := kept (hin.out rfl)
        clear hin
        go_wp2
        go_ret
        exact ⟨ret_num (by rw [H.out]; exact hb.out.symm), rfl⟩
  · have hab : (a != 0) = true := by simpa using ha
    have H : Kept (orI a b = a) := ⟨if_pos ha⟩
    clear ha
    go_enter Try.func49, Try.ntmps49
    go_wp2
    go_loop [8] (fun i => i = .int .i64 0) (fun i => 2 - (intOf i).toNat)
    case atStart => trivial
    case round =>
      subst hrel
      go_wp2
      go_ret
      exact ⟨ret_num H.out.symm, rfl⟩
/-- how the program compares two values -/
def cmpV (x y : ValM) : Int := orI (cmpI x.n y.n) (cmpI x.dev y.dev)
theorem cmpV_pos (x y : ValM) : decide (cmpV x y > 0) = ahead x y := by
  unfold cmpV orI cmpI
  rw [Bool.eq_iff_iff, decide_eq_true_eq, ahead_iff]
  by_cases h1 : x.n < y.n
  · rw [if_pos h1]; simp; omega
  · by_cases h2 : y.n < x.n
    · rw [if_neg h1, if_pos h2]; simp [h2]
    · rw [if_neg h1, if_neg h2]
      by_cases h3 : x.dev < y.dev
      · rw [if_pos h3]; simp; omega
      · by_cases h4 : y.dev < x.dev
        · rw [if_neg h3, if_pos h4]; simp; omega
        · rw [if_neg h3, if_neg h4]; simp; omega
def ValM.cells (x : ValM) : List Value := [.int .u16 (x.dev : Int), .int .u64 (x.n : Int), .string x.t]
def ValM.val (x : ValM) : Value := .agg #[.int .u16 (x.dev : Int), .int .u64 (x.n : Int), .string x.t]
theorem clov_any (x y : ValM) (w : World) : Calls Try.prog 48 #[x.val, y.val] w fun e w' => e = .returned (.int .i64 (cmpV x y)) ∧ Below w.heap.size w w' := by
  obtain ⟨xd, xn, xt⟩ := x
  obtain ⟨yd, yn, yt⟩ := y
  have HC : Kept (cmpV ⟨xd, xn, xt⟩ ⟨yd, yn, yt⟩ = orI (cmpI xn yn) (cmpI xd yd)) := ⟨rfl⟩
  have CA := kept (fun W => cmp64_any xn yn W)
  have CB := kept (fun W => cmp16_any xd yd W)
  have CO := kept (fun g c W h0 h1 hg => or_any g c (cmpI xn yn) (cmpI xd yd) W h0 h1 hg)
  generalize cmpI xn yn = p at *
  generalize cmpI xd yd = q at *
  have k1 := Blk.new w [.int .u16 (xd : Int), .int .u64 (xn : Int), .string xt] 48
  have hb1 := (Below.refl w.heap.size w).alloc (Nat.le_refl _) (.cells #[.int .u16 (xd : Int), .int .u64 (xn : Int), .string xt] 48)
  have k2 := Blk.new (w.alloc (.cells #[.int .u16 (xd : Int), .int .u64 (xn : Int), .string xt] 48)) [.int .u16 (yd : Int), .int .u64 (yn : Int), .string yt] 48
  have k3 := (Blk.newAt ((w.alloc (.cells #[.int .u16 (xd : Int), .int .u64 (xn : Int), .string xt] 48)).alloc (.cells #[.int .u16 (yd : Int), .int .u64 (yn : Int), .string yt] 48)) [.int .i64 p, .int .i64 q] 3 (g := w.heap.size + 1 + 1) (by simp)).drew
  have CO3 := kept (CO.out (w.heap.size + 1 + 1) 2 _ (k3.cell (j := 0) rfl) (k3.cell (j := 1) rfl) k3.lt)
  have HB3 := kept (((hb1.alloc (by simp) (.cells #[.int .u16 (yd : Int), .int .u64 (yn : Int), .string yt] 48)).alloc (by simp; omega) (.cells #[.int .i64 p, .int .i64 q] 3)).drew)
  clear k1 k2 k3 hb1 CO
  unfold ValM.val
  dsimp only
  go_enter Try.func48, Try.ntmps48
  go_upto_region 1 with fail
  go_region_held3 (fun W => W.cell? ⟨w.heap.size, 0, none⟩ = some (.int .u16 (xd : Int)) ∧ W.cell? ⟨w.heap.size, 1, none⟩ = some (.int .u64 (xn : Int)) ∧ W.cell? ⟨w.heap.size + 1, 0, none⟩ = some (.int .u16 (yd : Int)) ∧ W.cell? ⟨w.heap.size + 1, 1, none⟩ = some (.int .u64 (yn : Int))) (go_keep) (first
    | (go_at_call 50; ((with_reducible refine (CA.out _).mono ?_); rintro e x1 ⟨rfl, rfl⟩))
    | (go_at_call 51; ((with_reducible refine (CB.out _).mono ?_); rintro e x1 ⟨rfl, rfl⟩))
    | (go_at_call 49; ((with_reducible refine CO3.out.mono ?_); rintro e x1 ⟨rfl, rfl⟩)))
  go_wp2_with fail
  go_ret
  exact ⟨by rw [HC.out]; rfl, HB3.out⟩
end Go.Proofs.Ytnmcclkpgbdenaa.Reg
