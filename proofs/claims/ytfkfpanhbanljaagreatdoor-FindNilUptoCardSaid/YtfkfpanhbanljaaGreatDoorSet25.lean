import Derived.Test.YtfkfpanhbanljaaGreatDoorSet9
import Derived.Lib.MinMax
import Derived.Deep.QuietTactic
import Derived.BigQuiet
import Derived.Deep.DeepCutAuto
/- The walk of the reference's Line. -/
namespace Go.Proofs.YtfkfpanhbanljaaGreatDoor.Card
open Go.RowKit Go.Proofs.YtfkfpanhbanljaaGreatDoor.Mem

theorem isF_beq (f : Nat) (x : LineM) : ((x.f : Int) == (f : Int)) = isF f x := int_beq x.f f
end Go.Proofs.YtfkfpanhbanljaaGreatDoor.Card

/- The walks of Title and Odds, of the package and of the reference; the example. -/
namespace Go.Proofs.YtfkfpanhbanljaaGreatDoor.Card
open Go.RowKit Go.Proofs.YtfkfpanhbanljaaGreatDoor.Mem

def hasT (x : LineM) : Bool := !x.t.toList.isEmpty
def titleOf (ls : List LineM) : ByteArray := ((ls.find? hasT).map LineM.t).getD ⟨#[]⟩
def isOdd (x : LineM) : Bool := decide (0 < x.m.length)
def oddsN (ls : List LineM) : Nat := (ls.filter isOdd).length
theorem odds_take (ls : List LineM) (k : Nat) (x : LineM) (h : ls[k]? = some x) : oddsN (ls.take (k + 1)) = oddsN (ls.take k) + (if 0 < x.m.length then 1 else 0) := by
  obtain ⟨hk, rfl⟩ := List.getElem?_eq_some_iff.1 h
  unfold oddsN
  rw [List.take_succ_eq_append_getElem hk, List.filter_append, List.length_append]
  by_cases h0 : 0 < ls[k].m.length
  · rw [if_pos h0]; simp [isOdd, h0]
  · rw [if_neg h0]; simp [isOdd, h0]
theorem odds_le (ls : List LineM) (k : Nat) : oddsN (ls.take k) ≤ k := by
  unfold oddsN
  exact Nat.le_trans (List.length_filter_le _ _) (List.length_take_le _ _)
theorem ret_str {a b : ByteArray} (h : a = b) : Ending.returned (.string a) = .returned (.string b) := by rw [h]
theorem title_any (x : CardM) (w : World) (hx : x.Ok w w.heap.size) :
    Calls Tryz.prog 46 #[x.val] w fun e w' => e = .returned (.string (titleOf x.ls)) ∧ Below w.heap.size w w' := by
  obtain ⟨xcid, xX, xls, xc⟩ := x
  obtain ⟨hx1, hx2, hx3, hx4⟩ := hx
  dsimp only at hx1 hx2 hx3 hx4 ⊢
  have hb0 : Below w.heap.size w (w.alloc (.cells #[.int .u64 (xcid : Int), .slice xX xls.length xc] 31)) := (Below.refl _ _).alloc (Nat.le_refl _) _
  unfold CardM.val
  go_enter Tryz.func46, Tryz.ntmps46
  go_wp2
  rcases find_cases hasT xls with ⟨h1, h2⟩ | ⟨k0, z, h1, h2, h3, h4⟩
  · have HO : Kept (titleOf xls = ⟨#[]⟩) := ⟨by unfold titleOf; rw [h1]; rfl⟩
    clear h1
    go_loopw [8] (fun i wr => ∃ k : Nat, k ≤ xls.length ∧ i = .int .i64 (k : Int) ∧ Below w.heap.size w wr) (fun i _ => xls.length - (intOf i).toNat)
    case atStart => exact ⟨0, Nat.zero_le _, rfl, hb0⟩
    case round =>
      obtain ⟨k, hk, rfl, hb⟩ := hrel
      by_cases hlt : k < xls.length
      · obtain ⟨x, hx⟩ : ∃ x, xls[k]? = some x := ⟨_, List.getElem?_eq_getElem hlt⟩
        obtain ⟨b1, o1, rfl, hb1, hx1, hx2, hx3, hxo⟩ := (hx2.below hb).at_ hx
        have hf := h2 k x hx
        have hf2 : x.t.toList.isEmpty = true := by unfold hasT at hf; simpa using hf
        have hsw := hb.size
        clear hx h2 hf
        go_wp2
        go_roundw
        case rel => exact ⟨k + 1, by omega, by go_num, hb.alloc hsw _⟩
        case measure => simp [intOf]; omega
      · clear h2
        go_wp2
        go_ret
        exact ⟨ret_str HO.out.symm, hb⟩
  · have HO : Kept (titleOf xls = z.t) := ⟨by unfold titleOf; rw [h2]; rfl⟩
    have hlt0 := (List.getElem?_eq_some_iff.1 h1).1
    clear h2
    go_loopw [8] (fun i wr => ∃ k : Nat, k ≤ k0 ∧ i = .int .i64 (k : Int) ∧ Below w.heap.size w wr) (fun i _ => xls.length - (intOf i).toNat)
    case atStart => exact ⟨0, Nat.zero_le _, rfl, hb0⟩
    case round =>
      obtain ⟨k, hk, rfl, hb⟩ := hrel
      have hlt : k < xls.length := by omega
      obtain ⟨x, hx⟩ : ∃ x, xls[k]? = some x := ⟨_, List.getElem?_eq_getElem hlt⟩
      obtain ⟨b1, o1, rfl, hb1, hx1, hx2, hx3, hxo⟩ := (hx2.below hb).at_ hx
      have hsw := hb.size
      by_cases he : k = k0
      · subst he
        obtain rfl : x = z := Option.some.inj (hx.symm.trans h1)
        have hf2 : x.t.toList.isEmpty = false := by unfold hasT at h3; simpa using h3
        clear hx h1 h3 h4
        go_wp2
        go_ret
        exact ⟨ret_str HO.out.symm, hb.alloc hsw _⟩
      · have hf := h4 k x (by omega) hx
        have hf2 : x.t.toList.isEmpty = true := by unfold hasT at hf; simpa using hf
        clear hx h1 h3 h4 hf
        go_wp2
        go_roundw
        case rel => exact ⟨k + 1, by omega, by go_num, hb.alloc hsw _⟩
        case measure => simp [intOf]; omega
theorem rtitle_any (x : CardM) (w : World) (hx : x.Ok w w.heap.size) :
    Calls Tryz.prog 51 #[x.val] w fun e w' => e = .returned (.string (titleOf x.ls)) ∧ Below w.heap.size w w' := by
  obtain ⟨xcid, xX, xls, xc⟩ := x
  obtain ⟨hx1, hx2, hx3, hx4⟩ := hx
  dsimp only at hx1 hx2 hx3 hx4 ⊢
  have hb0 : Below w.heap.size w (w.alloc (.cells #[.int .u64 (xcid : Int), .slice xX xls.length xc] 31)) := (Below.refl _ _).alloc (Nat.le_refl _) _
  unfold CardM.val
  go_enter Tryz.func51, Tryz.ntmps51
  go_wp2
  rcases find_cases hasT xls with ⟨h1, h2⟩ | ⟨k0, z, h1, h2, h3, h4⟩
  · have HO : Kept (titleOf xls = ⟨#[]⟩) := ⟨by unfold titleOf; rw [h1]; rfl⟩
    clear h1
    go_loop [3] (fun i => ∃ k : Nat, k ≤ xls.length ∧ i = .int .i64 (k : Int)) (fun i => xls.length - (intOf i).toNat)
    case atStart => exact ⟨0, Nat.zero_le _, rfl⟩
    case round =>
      obtain ⟨k, hk, rfl⟩ := hrel
      by_cases hlt : k < xls.length
      · obtain ⟨x, hx⟩ : ∃ x, xls[k]? = some x := ⟨_, List.getElem?_eq_getElem hlt⟩
        obtain ⟨b1, o1, rfl, hb1, hx1, hx2, hx3, hxo⟩ := hx2.at_ hx
        have hf := h2 k x hx
        have hf2 : x.t.toList.isEmpty = true := by unfold hasT at hf; simpa using hf
        clear hx h2 hf
        go_wp2
        go_round
        case rel => exact ⟨k + 1, by omega, by go_num⟩
        case measure => simp [intOf]; omega
      · clear h2
        go_wp2
        go_ret
        exact ⟨ret_str HO.out.symm, hb0⟩
  · have HO : Kept (titleOf xls = z.t) := ⟨by unfold titleOf; rw [h2]; rfl⟩
    have hlt0 := (List.getElem?_eq_some_iff.1 h1).1
    clear h2
    go_loop [3] (fun i => ∃ k : Nat, k ≤ k0 ∧ i = .int .i64 (k : Int)) (fun i => xls.length - (intOf i).toNat)
    case atStart => exact ⟨0, Nat.zero_le _, rfl⟩
    case round =>
      obtain ⟨k, hk, rfl⟩ := hrel
      have hlt : k < xls.length := by omega
      obtain ⟨x, hx⟩ : ∃ x, xls[k]? = some x := ⟨_, List.getElem?_eq_getElem hlt⟩
      obtain ⟨b1, o1, rfl, hb1, hx1, hx2, hx3, hxo⟩ := hx2.at_ hx
      by_cases he : k = k0
      · subst he
        obtain rfl : x = z := Option.some.inj (hx.symm.trans h1)
        have hf2 : x.t.toList.isEmpty = false := by unfold hasT at h3; simpa using h3
        clear hx h1 h3 h4
        go_wp2
        go_ret
        exact ⟨ret_str HO.out.symm, hb0⟩
      · have hf := h4 k x (by omega) hx
        have hf2 : x.t.toList.isEmpty = true := by unfold hasT at hf; simpa using hf
        clear hx h1 h3 h4 hf
        go_wp2
        go_round
        case rel => exact ⟨k + 1, by omega, by go_num⟩
        case measure => simp [intOf]; omega
end Go.Proofs.YtfkfpanhbanljaaGreatDoor.Card

/- Layer 47 (twin): two addresses of mail. -/
namespace Go.Proofs.YtfkfpanhbanljaaGreatDoor.Twin
open Go.RowKit Go.Proofs.YtfkfpanhbanljaaGreatDoor.Mem Go.Proofs.YtfkfpanhbanljaaGreatDoor.Card

/-- a byte as a small letter -/
def smallN (c : Nat) : Nat := if 65 ≤ c ∧ c ≤ 90 then c + 32 else c
def byteAt (s : ByteArray) (i : Nat) : Nat := if h : i < s.size then (s[i]'h).toNat else 0
/-- texts with the same small letters -/
def eqSmall (x y : ByteArray) : Bool := decide (x.size = y.size) && (List.range x.size).all fun i => decide (smallN (byteAt x i) = smallN (byteAt y i))
def mailB (x y : ByteArray) : Bool := decide (x ≠ ⟨#[]⟩) && eqSmall x y
theorem small_any (c : Nat) (w : World) (hc : c < 256) : Calls Tryz.prog 102 #[.int .u8 (c : Int)] w fun e w' => e = .returned (.int .u8 ((smallN c : Nat) : Int)) ∧ w' = w := by
  unfold smallN
  by_cases h1 : 65 ≤ c
  · have d1 : decide ((65 : Int) ≤ (c : Int)) = true := decide_eq_true (by omega)
    by_cases h2 : c ≤ 90
    · rw [if_pos ⟨h1, h2⟩]
      have d2 : decide ((c : Int) ≤ 90) = true := decide_eq_true (by omega)
      go_enter Tryz.func102, Tryz.ntmps102
      go_wp2_with fail
      go_ret
      refine ⟨?_, rfl⟩
      show Ending.returned (.int .u8 ((c : Int) + 97 - 65)) = Ending.returned (.int .u8 ((c + 32 : Nat) : Int))
      rw [show (c : Int) + 97 - 65 = ((c + 32 : Nat) : Int) from by omega]
    · rw [if_neg (fun h => h2 h.2)]
      have d2 : decide ((c : Int) ≤ 90) = false := decide_eq_false (by omega)
      go_enter Tryz.func102, Tryz.ntmps102
      go_wp2_with fail
      go_ret
      exact ⟨rfl, rfl⟩
  · rw [if_neg (fun h => h1 h.1)]
    have d1 : decide ((65 : Int) ≤ (c : Int)) = false := decide_eq_false (by omega)
    go_enter Tryz.func102, Tryz.ntmps102
    go_wp2_with fail
    go_ret
    exact ⟨rfl, rfl⟩
theorem small_lt {c : Nat} (hc : c < 256) : smallN c < 256 := by unfold smallN; split <;> omega
set_option maxRecDepth 100000 in
theorem tsame_any (x y : ByteArray) (w : World) (hx : x.size ≤ 140737488355000) (_hy : y.size ≤ 140737488355000) : Calls Tryz.prog 82 #[.string x, .string y] w fun e w' => e = .returned (.bool (eqSmall x y)) ∧ ∃ q, w' = w.drewN q := by
  unfold eqSmall
  by_cases hs : x.size = y.size
  · rw [decide_eq_true hs, Bool.true_and]
    have e0 : ((x.size : Int) != (y.size : Int)) = false := by simp; omega
    have HS := kept hs
    clear hs
    go_enter Tryz.func82, Tryz.ntmps82
    go_wp2_with fail
    go_loopw [13] (fun i wr => ∃ (k q : Nat), k ≤ x.size ∧ i = .int .i64 (k : Int) ∧ Kept (∀ j, j < k → smallN (byteAt x j) = smallN (byteAt y j)) ∧ Kept (wr = w.drewN q)) (fun i _ => x.size - (intOf i).toNat)
    case atStart => exact ⟨0, 0, Nat.zero_le _, rfl, ⟨fun j hj => by omega⟩, ⟨rfl⟩⟩
    case round =>
      obtain ⟨k, q, hk, rfl, HA, HQ⟩ := hrel
      by_cases hlt : k < x.size
      · have hlt2 : k < y.size := by have := HS.out; omega
        have hkn : (k : Int) < (x.size : Int) := by omega
        have hkm : (k : Int) < (y.size : Int) := by omega
        have hbx : byteAt x k = (x[k]).toNat := by unfold byteAt; rw [dif_pos hlt]
        have hby : byteAt y k = (y[k]).toNat := by unfold byteAt; rw [dif_pos hlt2]
        have hcx : (x[k]).toNat < 256 := (x[k]).toNat_lt
        have hcy : (y[k]).toNat < 256 := (y[k]).toNat_lt
        have HB := kept (And.intro hbx hby)
        by_cases he : smallN (x[k]).toNat = smallN (y[k]).toNat
        · have e1 : (((smallN (x[k]).toNat : Nat) : Int) != ((smallN (y[k]).toNat : Nat) : Int)) = false := by simp; omega
          have HA2 : Kept (∀ j, j < k + 1 → smallN (byteAt x j) = smallN (byteAt y j)) := ⟨fun j hj => by
            rcases Nat.lt_or_ge j k with h | h
            · exact HA.out j h
            · obtain rfl : j = k := by omega
              rw [HB.out.1, HB.out.2]; exact he⟩
          clear he HB HA hbx hby
          go_wp2_with fail
          go_quiet ((go_at_call 102; exact Calls.quiet_of_same (small_any _ _ (UInt8.toNat_lt _))))
          go_wp2_with fail
          go_roundw
          case rel => exact ⟨k + 1, q + nq, by omega, by go_num, HA2, ⟨by rw [HQ.out, World.drewN_drewN]⟩⟩
          case measure => simp [intOf]; omega
        · have e1 : (((smallN (x[k]).toNat : Nat) : Int) != ((smallN (y[k]).toNat : Nat) : Int)) = true := by simp; omega
          have HF : Kept ((List.range x.size).all (fun i => decide (smallN (byteAt x i) = smallN (byteAt y i))) = false) := ⟨by
            cases hall : (List.range x.size).all (fun i => decide (smallN (byteAt x i) = smallN (byteAt y i))) with
            | false => rfl
            | true =>
              have := of_decide_eq_true (List.all_eq_true.1 hall k (List.mem_range.2 hlt))
              rw [HB.out.1, HB.out.2] at this
              exact absurd this he⟩
          clear he HB HA hbx hby
          go_wp2_with fail
          go_quiet ((go_at_call 102; exact Calls.quiet_of_same (small_any _ _ (UInt8.toNat_lt _))))
          go_wp2_with fail
          go_ret
          rw [HF.out]
          exact ⟨rfl, q + nq, by rw [HQ.out, World.drewN_drewN]⟩
      · obtain rfl : k = x.size := by omega
        have HT : Kept ((List.range x.size).all (fun i => decide (smallN (byteAt x i) = smallN (byteAt y i))) = true) := ⟨List.all_eq_true.2 fun i hi => decide_eq_true (HA.out i (List.mem_range.1 hi))⟩
        go_wp2_with fail
        go_ret
        rw [HT.out]
        exact ⟨rfl, q, HQ.out⟩
  · rw [decide_eq_false hs, Bool.false_and]
    have e0 : ((x.size : Int) != (y.size : Int)) = true := by simp; omega
    clear hs
    go_enter Tryz.func82, Tryz.ntmps82
    go_wp2_with fail
    go_ret
    exact ⟨rfl, 0, rfl⟩
theorem mail_any (x y : ByteArray) (w : World) (hx : x.size ≤ 140737488355000) (hy : y.size ≤ 140737488355000) : Calls Tryz.prog 44 #[.string x, .string y] w fun e w' => e = .returned (.bool (mailB x y)) ∧ Below w.heap.size w w' := by
  have CS := kept (fun W => tsame_any x y W hx hy)
  unfold mailB
  by_cases hx0 : x = ⟨#[]⟩
  · rw [decide_eq_false (fun h => h hx0), Bool.false_and]
    subst hx0
    go_enter Tryz.func44, Tryz.ntmps44
    go_wp2_with fail
    go_ret
    exact ⟨rfl, Below.refl _ _⟩
  · rw [decide_eq_true hx0, Bool.true_and]
    have e0 : (x.toList == []) = false := by
      rw [beq_eq_false_iff_ne]
      intro h
      apply hx0
      have h2 : x.toList = (⟨#[]⟩ : ByteArray).toList := by rw [h, ByteArray.toList_eq]
      have h3 := (str_beq x ⟨#[]⟩)
      rw [h2] at h3
      exact of_decide_eq_true (h3.symm.trans (by simp))
    go_enter Tryz.func44, Tryz.ntmps44
    go_wp2_with fail
    refine (CS.out _).mono ?_
    rintro e w1 ⟨rfl, q, rfl⟩
    go_wp2_with fail
    go_ret
    exact ⟨rfl, below_draw _ _ q⟩
end Go.Proofs.YtfkfpanhbanljaaGreatDoor.Twin
