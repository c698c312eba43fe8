/- The walks of Title and Odds, of the package and of the reference; the example. -/
import Derived.Test.YtijdkbejlaebhaaCardRLine
import Derived.Lib.MinMax
namespace Go.Proofs.Ytijdkbejlaebhaa.Card
open Go.RowKit Go.Proofs.Ytijdkbejlaebhaa.Mem

def hasT (x : LineM) : Bool := !x.t.toList.isEmpty
def titleOf (ls : List LineM) : ByteArray := ((ls.find? hasT).map LineM.t).getD ⟨#[]⟩
def isOdd (x : LineM) : Bool := decide (0 < x.m.length)
def oddsN (ls : List LineM) : Nat := (ls.filter isOdd).length
theorem odds_take (ls : List LineM) (k : Nat) (x : LineM) (h : ls[k]? = some x) : oddsN (ls.take (k + 1)) = oddsN (ls.take k) + (if 0 < x.m.length then 1 else 0) := by
  obtain ⟨hk, rfl⟩ := List.getElem?_eq_some_iff.1 h
  unfold oddsN
  rw [List.take_succ_eq_append_getElem hk, List.filter_append, List.length_append]
  by_cases h0 : 0 < ls[k].m.length
  · rw [if_pos h0]; simp [isOdd, h0]
  · rw [if_neg h0]; simp [isOdd, h0]
theorem odds_le (ls : List LineM) (k : Nat) : oddsN (ls.take k) ≤ k := by
  unfold oddsN
  exact Nat.le_trans (List.length_filter_le _ _) (List.length_take_le _ _)
theorem ret_str {a b : ByteArray} (h : a = b) : Ending.returned (.string a) = .returned (.string b) := by rw [h]
theorem title_any (x : CardM) (w : World) (hx : x.Ok w w.heap.size) :
    Calls Try.prog 48 #[x.val] w fun e w' => e = .returned (.string (titleOf x.ls)) ∧ Below w.heap.size w w' := by
  obtain ⟨xcid, xX, xls, xc⟩ := x
  obtain ⟨hx1, hx2, hx3, hx4⟩ := hx
  dsimp only at hx1 hx2 hx3 hx4 ⊢
  have hb0 : Below w.heap.size w (w.alloc (.cells #[.int .u64 (xcid : Int), .slice xX xls.length xc] 38)) := (Below.refl _ _).alloc (Nat.le_refl _) _
  unfold CardM.val
  go_enter Try.func48, Try.ntmps48
  go_wp2
  rcases find_cases hasT xls with ⟨h1, h2⟩ | ⟨k0, z, h1, h2, h3, h4⟩
  · have HO : Kept (titleOf xls = ⟨#[]⟩) := ⟨by unfold titleOf; rw [h1]; rfl⟩
    clear h1
    go_loopw [8] (fun i wr => ∃ k : Nat, k ≤ xls.length ∧ i = .int .i64 (k : Int) ∧ Below w.heap.size w wr) (fun i _ => xls.length - (intOf i).toNat)
    case atStart => exact ⟨0, Nat.zero_le _, rfl, hb0⟩
    case round =>
      obtain ⟨k, hk, rfl, hb⟩ := hrel
      by_cases hlt : k < xls.length
      · obtain ⟨x, hx⟩ : ∃ x, xls[k]? = some x := ⟨_, List.getElem?_eq_getElem hlt⟩
        obtain ⟨b1, o1, rfl, hb1, hx1, hx2, hx3, hxo⟩ := (hx2.below hb).at_ hx
        have hf := h2 k x hx
        have hf2 : x.t.toList.isEmpty = true := by unfold hasT at hf; simpa using hf
        have hsw := hb.size
        clear hx h2 hf
        go_wp2
        go_roundw
        case rel => exact ⟨k + 1, by omega, by go_num, hb.alloc hsw _⟩
        case measure => simp [intOf]; omega
      · clear h2
        go_wp2
        go_ret
        exact ⟨ret_str HO.out.symm, hb⟩
  · have HO : Kept (titleOf xls = z.t) := ⟨by unfold titleOf; rw [h2]; rfl⟩
    have hlt0 := (List.getElem?_eq_some_iff.1 h1).1
    clear h2
    go_loopw [8] (fun i wr => ∃ k : Nat, k ≤ k0 ∧ i = .int .i64 (k : Int) ∧ Below w.heap.size w wr) (fun i _ => xls.length - (intOf i).toNat)
    case atStart => exact ⟨0, Nat.zero_le _, rfl, hb0⟩
    case round =>
      obtain ⟨k, hk, rfl, hb⟩ := hrel
      have hlt : k < xls.length := by omega
      obtain ⟨x, hx⟩ : ∃ x, xls[k]? = some x := ⟨_, List.getElem?_eq_getElem hlt⟩
      obtain ⟨b1, o1, rfl, hb1, hx1, hx2, hx3, hxo⟩ := (hx2.below hb).at_ hx
      have hsw := hb.size
      by_cases he : k = k0
      · subst he
        obtain rfl : x = z := Option.some.inj (hx.symm.trans h1)
        have hf2 : x.t.toList.isEmpty = false := by unfold hasT at h3; simpa using h3
        clear hx h1 h3 h4
        go_wp2
        go_ret
        exact ⟨ret_str HO.out.symm, hb.alloc hsw _⟩
      · have hf := h4 k x (by omega) hx
        have hf2 : x.t.toList.isEmpty = true := by unfold hasT at hf; simpa using hf
        clear hx h1 h3 h4 hf
        go_wp2
        go_roundw
        case rel => exact ⟨k + 1, by omega, by go_num, hb.alloc hsw _⟩
        case measure => simp [intOf]; omega
theorem rtitle_any (x : CardM) (w : World) (hx : x.Ok w w.heap.size) :
    Calls Try.prog 49 #[x.val] w fun e w' => e = .returned (.string (titleOf x.ls)) ∧ Below w.heap.size w w' := by
  obtain ⟨xcid, xX, xls, xc⟩ := x
  obtain ⟨hx1, hx2, hx3, hx4⟩ := hx
  dsimp only at hx1 hx2 hx3 hx4 ⊢
  have hb0 : Below w.heap.size w (w.alloc (.cells #[.int .u64 (xcid : Int), .slice xX xls.length xc] 38)) := (Below.refl _ _).alloc (Nat.le_refl _) _
  unfold CardM.val
  go_enter Try.func49, Try.ntmps49
  go_wp2
  rcases find_cases hasT xls with ⟨h1, h2⟩ | ⟨k0, z, h1, h2, h3, h4⟩
  · have HO : Kept (titleOf xls = ⟨#[]⟩) := ⟨by unfold titleOf; rw [h1]; rfl⟩
    clear h1
    go_loop [3] (fun i => ∃ k : Nat, k ≤ xls.length ∧ i = .int .i64 (k : Int)) (fun i => xls.length - (intOf i).toNat)
    case atStart => exact ⟨0, Nat.zero_le _, rfl⟩
    case round =>
      obtain ⟨k, hk, rfl⟩ := hrel
      by_cases hlt : k < xls.length
      · obtain ⟨x, hx⟩ : ∃ x, xls[k]? = some x := ⟨_, List.getElem?_eq_getElem hlt⟩
        obtain ⟨b1, o1, rfl, hb1, hx1, hx2, hx3, hxo⟩ := hx2.at_ hx
        have hf := h2 k x hx
        have hf2 : x.t.toList.isEmpty = true := by unfold hasT at hf; simpa using hf
        clear hx h2 hf
        go_wp2
        go_round
        case rel => exact ⟨k + 1, by omega, by go_num⟩
        case measure => simp [intOf]; omega
      · clear h2
        go_wp2
        go_ret
        exact ⟨ret_str HO.out.symm, hb0⟩
  · have HO : Kept (titleOf xls = z.t) := ⟨by unfold titleOf; rw [h2]; rfl⟩
    have hlt0 := (List.getElem?_eq_some_iff.1 h1).1
    clear h2
    go_loop [3] (fun i => ∃ k : Nat, k ≤ k0 ∧ i = .int .i64 (k : Int)) (fun i => xls.length - (intOf i).toNat)
    case atStart => exact ⟨0, Nat.zero_le _, rfl⟩
    case round =>
      obtain ⟨k, hk, rfl⟩ := hrel
      have hlt : k < xls.length := by omega
      obtain ⟨x, hx⟩ : ∃ x, xls[k]? = some x := ⟨_, List.getElem?_eq_getElem hlt⟩
      obtain ⟨b1, o1, rfl, hb1, hx1, hx2, hx3, hxo⟩ := hx2.at_ hx
      by_cases he : k = k0
      · subst he
        obtain rfl : x = z := Option.some.inj (hx.symm.trans h1)
        have hf2 : x.t.toList.isEmpty = false := by unfold hasT at h3; simpa using h3
        clear hx h1 h3 h4
        go_wp2
        go_ret
        exact ⟨ret_str HO.out.symm, hb0⟩
      · have hf := h4 k x (by omega) hx
        have hf2 : x.t.toList.isEmpty = true := by unfold hasT at hf; simpa using hf
        clear hx h1 h3 h4 hf
        go_wp2
        go_round
        case rel => exact ⟨k + 1, by omega, by go_num⟩
        case measure => simp [intOf]; omega
theorem odds_any (x : CardM) (w : World) (hx : x.Ok w w.heap.size) :
    Calls Try.prog 50 #[x.val] w fun e w' => e = .returned (.int .i64 (oddsN x.ls : Int)) ∧ Below w.heap.size w w' := by
  obtain ⟨xcid, xX, xls, xc⟩ := x
  obtain ⟨hx1, hx2, hx3, hx4⟩ := hx
  dsimp only at hx1 hx2 hx3 hx4 ⊢
  have hb0 : Below w.heap.size w (w.alloc (.cells #[.int .u64 (xcid : Int), .slice xX xls.length xc] 38)) := (Below.refl _ _).alloc (Nat.le_refl _) _
  unfold CardM.val
  go_enter Try.func50, Try.ntmps50
  go_wp2
  go_loopw [3, 9] (fun v i wr => ∃ k : Nat, k ≤ xls.length ∧ i = .int .i64 (k : Int) ∧ v = .int .i64 (oddsN (xls.take k) : Int) ∧ Below w.heap.size w wr) (fun _ i _ => xls.length - (intOf i).toNat)
  case atStart => exact ⟨0, Nat.zero_le _, rfl, rfl, hb0⟩
  case round =>
    obtain ⟨k, hk, rfl, rfl, hb⟩ := hrel
    have hol := odds_le xls k
    by_cases hlt : k < xls.length
    · obtain ⟨x, hx⟩ : ∃ x, xls[k]? = some x := ⟨_, List.getElem?_eq_getElem hlt⟩
      obtain ⟨b1, o1, rfl, hb1, hx1, hx2, hx3, hxo⟩ := (hx2.below hb).at_ hx
      have hsw := hb.size
      have HT := kept (odds_take xls k x hx)
      generalize oddsN (xls.take k) = n at *
      clear hx
      by_cases h0 : 0 < x.m.length
      · have hm : min (x.m.length : Int) 1 = 1 := by omega
        rw [if_pos h0] at HT
        clear h0
        go_wp2
        go_roundw
        case rel => exact ⟨k + 1, by omega, by go_num, (by rw [HT.out]; go_num), hb.alloc hsw _⟩
        case measure => simp [intOf]; omega
      · have hm : min (x.m.length : Int) 1 = 0 := by omega
        rw [if_neg h0] at HT
        clear h0
        go_wp2
        go_roundw
        case rel => exact ⟨k + 1, by omega, by go_num, (by rw [HT.out]; go_num), hb.alloc hsw _⟩
        case measure => simp [intOf]; omega
    · have e : xls.take k = xls := List.take_of_length_le (by omega)
      have HE := kept e
      clear e
      go_wp2
      go_ret
      exact ⟨ret_num (by rw [HE.out]), hb⟩
theorem rodds_any (x : CardM) (w : World) (hx : x.Ok w w.heap.size) :
    Calls Try.prog 51 #[x.val] w fun e w' => e = .returned (.int .i64 (oddsN x.ls : Int)) ∧ Below w.heap.size w w' := by
  obtain ⟨xcid, xX, xls, xc⟩ := x
  obtain ⟨hx1, hx2, hx3, hx4⟩ := hx
  dsimp only at hx1 hx2 hx3 hx4 ⊢
  have hb0 : Below w.heap.size w (w.alloc (.cells #[.int .u64 (xcid : Int), .slice xX xls.length xc] 38)) := (Below.refl _ _).alloc (Nat.le_refl _) _
  unfold CardM.val
  go_enter Try.func51, Try.ntmps51
  go_wp2
  go_loop [3, 4] (fun v i => ∃ k : Nat, k ≤ xls.length ∧ i = .int .i64 (k : Int) ∧ v = .int .i64 (oddsN (xls.take k) : Int)) (fun _ i => xls.length - (intOf i).toNat)
  case atStart => exact ⟨0, Nat.zero_le _, rfl, rfl⟩
  case round =>
    obtain ⟨k, hk, rfl, rfl⟩ := hrel
    have hol := odds_le xls k
    by_cases hlt : k < xls.length
    · obtain ⟨x, hx⟩ : ∃ x, xls[k]? = some x := ⟨_, List.getElem?_eq_getElem hlt⟩
      obtain ⟨b1, o1, rfl, hb1, hx1, hx2, hx3, hxo⟩ := hx2.at_ hx
      have HT := kept (odds_take xls k x hx)
      generalize oddsN (xls.take k) = n at *
      clear hx
      by_cases h0 : 0 < x.m.length
      · rw [if_pos h0] at HT
        go_wp2
        go_round
        case rel => exact ⟨k + 1, by omega, by go_num, (by rw [HT.out]; go_num)⟩
        case measure => simp [intOf]; omega
      · rw [if_neg h0] at HT
        go_wp2
        go_round
        case rel => exact ⟨k + 1, by omega, by go_num, (by rw [HT.out]; go_num)⟩
        case measure => simp [intOf]; omega
    · have e : xls.take k = xls := List.take_of_length_le (by omega)
      have HE := kept e
      clear e
      go_wp2
      go_ret
      exact ⟨ret_num (by rw [HE.out]), hb0⟩
end Go.Proofs.Ytijdkbejlaebhaa.Card
