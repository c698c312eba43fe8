/- The laws of layer 5, continued: opening, and no burst gets through. -/
import Derived.Test.YtpckfnafcmifpaaRefOpen
import Derived.Test.YtpckfnafcmifpaaSealLaws
namespace Go.Proofs.Ytpckfnafcmifpaa.Seal
open Go.RowKit Go.Proofs.Ytpckfnafcmifpaa.Mem Go.Proofs.Ytpckfnafcmifpaa.Crc

theorem le4_leN {s : Nat} (h : s < 4294967296) : leN (le4 s) = s := by
  simp only [le4, leN]
  omega
theorem residue {q : List Nat} (hq : AllB q) : more 0 (q ++ le4 (more 0 q)) = Sn 32 full ^^^ full := by
  rw [← more_append]
  have hs : more 0 q < 4294967296 := more_lt hq (by decide)
  generalize more 0 q = s at *
  unfold more
  rw [run_leN _ (le4_all s), le4_leN hs]
  have e : (s ^^^ full) ^^^ s = full := by rw [Nat.xor_comm s full, Nat.xor_assoc, Nat.xor_self, Nat.xor_zero]
  rw [e]
  rfl
theorem sealed_of_opened {l : List Nat} {k : Nat} {m : List Nat} (h : opened l = (k, m, 0)) : sealed k m = l := by
  unfold opened at h
  by_cases h5 : l.length < 5
  · rw [if_pos h5] at h; injection h with _ h; injection h with _ h; cases h
  · rw [if_neg h5] at h
    by_cases hq : le4 (more 0 (l.take (l.length - 4))) = l.drop (l.length - 4)
    · rw [if_pos hq] at h
      injection h with h1 h; injection h with h2 _
      rw [← h1, ← h2]
      exact (sealed_iff l (l.length - 4) (by omega) (by omega)).2 hq
    · rw [if_neg hq] at h; injection h with _ h; injection h with _ h; cases h
theorem opened_good (k : Nat) (l : List Nat) : opened (sealed k l) = (k, l, 0) := by
  have hlen := sealed_length k l
  unfold opened
  rw [if_neg (by omega), hlen, show l.length + 5 - 4 = l.length + 1 from by omega]
  have ht : (sealed k l).take (l.length + 1) = k :: l := by
    unfold sealed
    rw [List.take_append_of_le_length (by simp), List.take_of_length_le (by simp)]
  have hd : (sealed k l).drop (l.length + 1) = le4 (more 0 (k :: l)) := by
    unfold sealed
    rw [List.drop_append_of_le_length (by simp), List.drop_of_length_le (by simp), List.nil_append]
  rw [ht, hd, if_pos rfl]
  have h0 : (sealed k l).getD 0 0 = k := rfl
  have h1 : ((sealed k l).drop 1).take (l.length + 1 - 1) = l := by
    show (l ++ le4 (more 0 (k :: l))).take l.length = l
    rw [List.take_append_of_le_length (Nat.le_refl _), List.take_of_length_le (Nat.le_refl _)]
  rw [h0, h1]
theorem spoilt_same {l : List Nat} (hl : AllB l) {k m : Nat} (h : m % 2 ^ (8 * l.length - k) = 0) : spoilt l k m = l := by
  unfold spoilt
  rw [h, Nat.mul_zero, Nat.xor_zero, leB_leN l hl]
theorem opened_bad {k j m : Nat} {l : List Nat} (hk : k < 256) (hl : AllB l) (hm : m < 4294967296) (hj : j ≤ 8 * (sealed k l).length) (h : ¬ m % 2 ^ (8 * (sealed k l).length - j) = 0) : opened (spoilt (sealed k l) j m) = (0, [], 5) := by
  have hlen := sealed_length k l
  have hsl := spoilt_length (sealed k l) j m
  have hsa : AllB (spoilt (sealed k l) j m) := spoilt_all _ _ _
  have hne : ¬ more 0 (spoilt (sealed k l) j m) = more 0 (sealed k l) := fun e => h ((burst (sealed_all hk hl) hj hm 0).1 e)
  generalize spoilt (sealed k l) j m = x at *
  unfold opened
  rw [if_neg (by omega), if_neg]
  intro hq
  apply hne
  have e1 : more 0 (sealed k l) = Sn 32 full ^^^ full := residue (cons_all hk hl)
  have e2 := residue (all_take hsa (x.length - 4))
  rw [hq, List.take_append_drop] at e2
  rw [e1, e2]
theorem opened_all {l : List Nat} (hl : AllB l) {k : Nat} {m : List Nat} {er : Nat} (h : opened l = (k, m, er)) : k < 256 ∧ AllB m ∧ m.length ≤ l.length ∧ er < 6 := by
  unfold opened at h
  have hnil : AllB [] := fun x hx => by cases hx
  split at h
  · cases h; exact ⟨by decide, hnil, Nat.zero_le _, by decide⟩
  · split at h
    · cases h
      refine ⟨?_, fun z hz => hl z (List.mem_of_mem_drop (List.mem_of_mem_take hz)), by rw [List.length_take, List.length_drop]; omega, by decide⟩
      cases l with
      | nil => simp
      | cons a t => exact hl a (by simp)
    · cases h; exact ⟨by decide, hnil, Nat.zero_le _, by decide⟩
end Go.Proofs.Ytpckfnafcmifpaa.Seal
