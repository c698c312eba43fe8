/- The walks of layer 43, continued: the document's Fold, Cmp, Begins. -/
import Derived.Test.YtfkfpanhbanljaaGreatDoorSet30
namespace Go.Proofs.YtfkfpanhbanljaaGreatDoor.Fold
open Go.RowKit Go.Proofs.YtfkfpanhbanljaaGreatDoor.Mem Go.Proofs.YtfkfpanhbanljaaGreatDoor.Card Go.Lib

def foldB (s : ByteArray) : ByteArray := bOf (fold s.data.toList)
theorem foldB_size (s : ByteArray) : (foldB s).size ≤ s.size := by
  unfold foldB
  rw [bOf_size]
  have := fold_length s.data.toList
  simpa using this
theorem join_take (ws : List (List UInt8)) (k : Nat) (x : List UInt8) (h : ws[k]? = some x) : Lib.join (ws.take (k + 1)) [32] = if k = 0 then x else Lib.join (ws.take k) [32] ++ [32] ++ x := by
  cases ws with
  | nil => simp at h
  | cons w r =>
    cases k with
    | zero =>
      simp at h
      subst h
      simp [join_one]
    | succ k =>
      simp at h
      rw [if_neg (by omega), List.take_succ_cons, List.take_succ_cons, join_cons, join_cons, joinTail_take_succ [32] r k x h]
      simp
theorem join_take_le (ws : List (List UInt8)) (k : Nat) : (Lib.join (ws.take k) [32]).length ≤ (Lib.join ws [32]).length := by
  cases ws with
  | nil => simp
  | cons w r =>
    cases k with
    | zero => simp [join_nil]
    | succ k =>
      rw [List.take_succ_cons, join_cons, join_cons]
      have := joinTail_take_le [32] r k
      simp
      omega
theorem wordsB_get {s : ByteArray} {k : Nat} {x : List UInt8} (h : (words s.data.toList)[k]? = some x) : (wordsB s).getD k ByteArray.empty = bOf x := by
  unfold wordsB
  simp [h]
theorem wordsB_length (s : ByteArray) : (wordsB s).length = (words s.data.toList).length := by simp [wordsB]
theorem wordsB_le (s : ByteArray) : (wordsB s).length ≤ s.size + 1 := by
  rw [wordsB_length]
  have := words_length_le s.data.toList
  simpa using this
theorem rfold_any (s : ByteArray) (w : World) (hs : s.size ≤ 4294967000) : Calls Tryz.prog 50 #[.string s] w fun e w' => e = .returned (.string (foldB s)) ∧ Below w.heap.size w w' := by
  have CW := kept (rwords_any s w hs)
  have hwl := wordsB_le s
  go_enter Tryz.func50, Tryz.ntmps50
  go_wp2_with fail
  refine CW.out.mono ?_
  rintro e w1 ⟨A, c, rfl, hown, hc, hb⟩
  have hrd := strE_rd.1 hown.rd
  clear hown CW
  obtain ⟨n, hn⟩ : ∃ n, (wordsB s).length = n := ⟨_, rfl⟩
  have hn2 : (words s.data.toList).length = n := by rw [← hn, wordsB_length]
  have HN := kept hn
  have HN2 := kept hn2
  rw [hn] at hwl hc ⊢
  clear hn hn2
  go_wp2_with fail
  go_loop [4, 5] (fun o i => ∃ k : Nat, k ≤ n ∧ i = .int .i64 (k : Int) ∧ o = .string (bOf (Lib.join ((words s.data.toList).take k) [32]))) (fun _ i => n - (intOf i).toNat)
  case atStart => exact ⟨0, Nat.zero_le _, rfl, rfl⟩
  case round =>
    obtain ⟨k, hk, rfl, rfl⟩ := hrel
    by_cases hlt : k < n
    · obtain ⟨x, hx⟩ : ∃ x, (words s.data.toList)[k]? = some x := ⟨_, List.getElem?_eq_getElem (by rw [HN2.out]; exact hlt)⟩
      have hcell := hrd.at_ (SB_get (wordsB s) k (by rw [HN.out]; exact hlt))
      rw [wordsB_get hx] at hcell
      obtain ⟨b, o, rfl, hbb, hcell⟩ := hcell
      have hj := join_take _ k x hx
      have hjl := join_take_le (words s.data.toList) (k + 1)
      have hfl := fold_length s.data.toList
      unfold fold at hfl
      have hdl : s.data.toList.length = s.size := by simp
      by_cases h0 : k = 0
      · subst h0
        have HJ := kept hj
        rw [hj] at hjl
        have hcz : ¬ 9223372036854775807 < (bOf (Lib.join ((words s.data.toList).take 0) [32])).size + (bOf x).size := by rw [bOf_size, bOf_size]; simp [join_nil] at hjl ⊢; omega
        have he0 : (bOf (Lib.join ((words s.data.toList).take 0) [32])) ++ bOf x = bOf (Lib.join ((words s.data.toList).take (0 + 1)) [32]) := by rw [HJ.out, bOf_app]; simp [join_nil]
        have HE := kept he0
        rw [List.take_zero] at hcz
        have HE2 := HE.out
        rw [List.take_zero] at HE2
        have HE := kept HE2
        rw [Nat.add_zero] at hcell
        clear hj hjl hfl hdl he0 HJ hx HE2
        go_wp2_with fail
        go_round
        case rel => exact ⟨1, by omega, by go_num, by rw [HE.out]⟩
        case measure => simp [intOf]; omega
      · rw [if_neg h0] at hj
        have HJ := kept hj
        rw [hj] at hjl
        have hcz : ¬ 9223372036854775807 < (bOf (Lib.join ((words s.data.toList).take k) [32])).size + (⟨#[32]⟩ : ByteArray).size := by rw [bOf_size]; simp at hjl; have : (⟨#[32]⟩ : ByteArray).size = 1 := rfl; omega
        have hcz2 : ¬ 9223372036854775807 < (bOf (Lib.join ((words s.data.toList).take k) [32]) ++ (⟨#[32]⟩ : ByteArray)).size + (bOf x).size := by rw [ByteArray.size_append, bOf_size, bOf_size]; simp at hjl; have : (⟨#[32]⟩ : ByteArray).size = 1 := rfl; omega
        have he0 : bOf (Lib.join ((words s.data.toList).take k) [32]) ++ (⟨#[32]⟩ : ByteArray) ++ bOf x = bOf (Lib.join ((words s.data.toList).take (k + 1)) [32]) := by
          rw [HJ.out]; have : (⟨#[32]⟩ : ByteArray) = bOf [32] := rfl
          rw [this, bOf_app, bOf_app]
        have HE := kept he0
        have hpos : (0 : Int) < (k : Int) := by omega
        clear hj hjl hfl hdl he0 HJ hx
        go_wp2_with fail
        go_round
        case rel => exact ⟨k + 1, by omega, by go_num, by rw [HE.out]⟩
        case measure => simp [intOf]; omega
    · have HE : Kept (foldB s = bOf (Lib.join ((words s.data.toList).take k) [32])) := ⟨by unfold foldB fold; rw [List.take_of_length_le (by rw [HN2.out]; omega)]⟩
      go_wp2_with fail
      go_ret
      exact ⟨by rw [HE.out]; rfl, hb⟩
end Go.Proofs.YtfkfpanhbanljaaGreatDoor.Fold
