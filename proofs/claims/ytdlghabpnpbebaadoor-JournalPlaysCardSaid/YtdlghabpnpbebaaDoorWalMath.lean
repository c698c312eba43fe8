/- Plain mathematics of layer 23 (wal): a record's bytes, the record at the front, what a scan tells. No program in sight. -/
import Derived.Test.YtdlghabpnpbebaaDoorNumMath
import Derived.Test.YtdlghabpnpbebaaDoorCrcMath
namespace Go.Proofs.YtdlghabpnpbebaaDoor.Wal
open Go.Proofs.YtdlghabpnpbebaaDoor.Num Go.Proofs.YtdlghabpnpbebaaDoor.Mem Go.Proofs.YtdlghabpnpbebaaDoor.Crc Go.Proofs.YtdlghabpnpbebaaDoor.Shift

def le4 (c : Nat) : List Nat := [c % 256, c / 256 % 256, c / 65536 % 256, c / 16777216 % 256]
theorem le4_all (c : Nat) : AllB (le4 c) := fun x hx => by
  simp only [le4, List.mem_cons, List.not_mem_nil, or_false] at hx
  omega
def headB (r : List Nat) : List Nat := numB r.length ++ r
/-- a record's bytes -/
def recB (r : List Nat) : List Nat := headB r ++ le4 (more 0 (headB r))
def recsB (l : List (List Nat)) : List Nat := l.flatMap recB
theorem headB_all {r : List Nat} (h : AllB r) : AllB (headB r) := fun x hx => (List.mem_append.1 hx).elim (numB_all _ x) (h x)
theorem recB_all {r : List Nat} (h : AllB r) : AllB (recB r) := fun x hx => (List.mem_append.1 hx).elim (headB_all h x) (le4_all _ x)
theorem recsB_all {l : List (List Nat)} (h : ∀ r ∈ l, AllB r) : AllB (recsB l) := fun x hx => by
  obtain ⟨r, hr, hx⟩ := List.mem_flatMap.1 hx
  exact recB_all (h r hr) x hx
theorem headB_length (r : List Nat) : (headB r).length = 1 + lenB r.length + r.length := by unfold headB; rw [List.length_append, numB_length]
theorem recB_length (r : List Nat) : (recB r).length = 1 + lenB r.length + r.length + 4 := by unfold recB; rw [List.length_append, headB_length]; rfl
theorem recB_le (r : List Nat) : (recB r).length ≤ r.length + 13 := by have := recB_length r; have := lenB_le r.length; omega
theorem recB_ge (r : List Nat) : r.length + 5 ≤ (recB r).length := by have := recB_length r; omega
/-- the record at the front, if there is one -/
def oneM (b : List Nat) : Option (List Nat) :=
  if (readAt b 0).err = 0 ∧ (readAt b 0).next + (readAt b 0).v + 4 ≤ b.length ∧ recB ((b.drop (readAt b 0).next).take (readAt b 0).v) <+: b then some ((b.drop (readAt b 0).next).take (readAt b 0).v) else none
theorem one_some {b r : List Nat} (h : oneM b = some r) : recB r <+: b := by
  unfold oneM at h
  split at h
  · rename_i h1
    obtain rfl := Option.some.inj h
    exact h1.2.2
  · cases h
theorem one_rec {r : List Nat} (hl : r.length < 18446744073709551616) (rest : List Nat) : oneM (recB r ++ rest) = some r := by
  have e : recB r ++ rest = numB r.length ++ (r ++ (le4 (more 0 (headB r)) ++ rest)) := by unfold recB headB; simp only [List.append_assoc]
  have hr := read_written hl (r ++ (le4 (more 0 (headB r)) ++ rest))
  have hd : ((recB r ++ rest).drop (1 + lenB r.length)).take r.length = r := by rw [e, ← numB_length, List.drop_left, List.take_left]
  unfold oneM
  rw [e, hr, ← e]
  dsimp only
  rw [hd, if_pos]
  refine ⟨rfl, ?_, List.prefix_append _ _⟩
  rw [List.length_append, recB_length]; omega
theorem one_iff {b r : List Nat} (hl : b.length < 18446744073709551616) : oneM b = some r ↔ recB r <+: b := by
  refine ⟨one_some, ?_⟩
  rintro ⟨t, rfl⟩
  refine one_rec ?_ t
  have := recB_length r
  rw [List.length_append] at hl
  omega
theorem one_nil : oneM [] = none := by
  unfold oneM
  rw [if_neg]
  rintro ⟨h, _⟩
  exact absurd h (by decide)
/-- what a scan tells: the records, and where they end -/
def Scans (b : List Nat) (l : List (List Nat)) (e : Nat) : Prop := ∃ rest, b = recsB l ++ rest ∧ e = (recsB l).length ∧ oneM rest = none
theorem scans_cons {r b : List Nat} {x : List (List Nat)} {e : Nat} (hl : (recB r ++ b).length < 18446744073709551616) (h : Scans (recB r ++ b) x e) : ∃ x', x = r :: x' ∧ Scans b x' (e - (recB r).length) ∧ (recB r).length ≤ e := by
  obtain ⟨rest, h1, h2, h3⟩ := h
  rcases x with _ | ⟨y, x⟩
  · have : oneM (recB r ++ b) = some r := (one_iff hl).2 (List.prefix_append _ _)
    rw [h1] at this
    simp only [recsB, List.flatMap_nil, List.nil_append] at this
    rw [h3] at this
    cases this
  · have e1 : oneM (recB r ++ b) = some r := (one_iff hl).2 (List.prefix_append _ _)
    have e2 : oneM (recB r ++ b) = some y := (one_iff hl).2 (by rw [h1]; exact ⟨recsB x ++ rest, by simp [recsB]⟩)
    obtain rfl : r = y := Option.some.inj (e1.symm.trans e2)
    have h4 : b = recsB x ++ rest := by
      have : recB r ++ b = recB r ++ (recsB x ++ rest) := by rw [h1]; simp [recsB]
      exact List.append_cancel_left this
    refine ⟨x, rfl, ⟨rest, h4, ?_, h3⟩, ?_⟩
    · rw [h2]; simp [recsB]
    · rw [h2]; simp [recsB]
theorem scans_app : ∀ (l : List (List Nat)) {b : List Nat} {x : List (List Nat)} {e : Nat}, (recsB l ++ b).length < 18446744073709551616 → Scans (recsB l ++ b) x e → ∃ x', x = l ++ x' ∧ Scans b x' (e - (recsB l).length) ∧ (recsB l).length ≤ e
  | [], b, x, e, _, h => ⟨x, rfl, by simpa [recsB] using h, by simp [recsB]⟩
  | r :: l, b, x, e, hl, h => by
    have e1 : recsB (r :: l) ++ b = recB r ++ (recsB l ++ b) := by simp [recsB]
    rw [e1] at h hl
    obtain ⟨x1, rfl, h2, h3⟩ := scans_cons hl h
    obtain ⟨x2, rfl, h4, h5⟩ := scans_app l (by rw [List.length_append] at hl; omega) h2
    refine ⟨x2, rfl, ?_, ?_⟩
    · have : (recsB (r :: l)).length = (recB r).length + (recsB l).length := by simp [recsB]
      rw [this, Nat.sub_add_eq]; exact h4
    · have : (recsB (r :: l)).length = (recB r).length + (recsB l).length := by simp [recsB]
      omega
theorem scans_none {b : List Nat} {x : List (List Nat)} {e : Nat} (hl : b.length < 18446744073709551616) (hn : oneM b = none) (h : Scans b x e) : x = [] ∧ e = 0 := by
  obtain ⟨rest, h1, h2, h3⟩ := h
  rcases x with _ | ⟨y, x⟩
  · exact ⟨rfl, by simpa [recsB] using h2⟩
  · have : oneM b = some y := (one_iff hl).2 (by rw [h1]; exact ⟨recsB x ++ rest, by simp [recsB]⟩)
    rw [hn] at this
    cases this
/-- of records with nothing behind that is one, just these are told -/
theorem scans_of {l : List (List Nat)} {q : List Nat} {x : List (List Nat)} {e : Nat} (hl : (recsB l ++ q).length < 18446744073709551616) (hn : oneM q = none) (h : Scans (recsB l ++ q) x e) : x = l ∧ e = (recsB l).length := by
  obtain ⟨x', rfl, h2, h3⟩ := scans_app l hl h
  obtain ⟨rfl, h4⟩ := scans_none (by rw [List.length_append] at hl; omega) hn h2
  exact ⟨by simp, by omega⟩
theorem scans_unique {b : List Nat} {l m : List (List Nat)} {e k : Nat} (hl : b.length < 18446744073709551616) (h1 : Scans b l e) (h2 : Scans b m k) : l = m ∧ e = k := by
  obtain ⟨rest, rfl, e1, h3⟩ := h1
  obtain ⟨rfl, e2⟩ := scans_of hl h3 h2
  exact ⟨rfl, by omega⟩
theorem recsB_snoc (l : List (List Nat)) (r : List Nat) : recsB (l ++ [r]) = recsB l ++ recB r := by simp [recsB]
theorem recsB_length_le {l : List (List Nat)} {m : Nat} (h : ∀ r ∈ l, r.length ≤ m) : (recsB l).length ≤ l.length * (m + 13) := by
  unfold recsB
  induction l with
  | nil => simp
  | cons r l ih =>
    have h1 := recB_le r
    have h2 := h r List.mem_cons_self
    have h3 := ih fun y hy => h y (List.mem_cons_of_mem _ hy)
    rw [List.flatMap_cons, List.length_append, List.length_cons, Nat.add_mul]
    omega
/-! reading at a place -/
theorem getD_drop (b : List Nat) (k j : Nat) : (b.drop k).getD j 0 = b.getD (k + j) 0 := by
  simp [List.getD, List.getElem?_drop]
theorem read_drop (b : List Nat) (k : Nat) (hk : k ≤ b.length) : readAt b k = ⟨(readAt (b.drop k) 0).v, if (readAt (b.drop k) 0).err = 0 then k + (readAt (b.drop k) 0).next else 0, (readAt (b.drop k) 0).err⟩ := by
  have hl : (b.drop k).length = b.length - k := List.length_drop
  have hf : badForm b k = badForm (b.drop k) 0 := by
    unfold badForm
    rw [getD_drop, getD_drop, hl, Nat.add_zero, Nat.zero_add]
    rw [show decide (k + 1 < b.length) = decide (1 < b.length - k) from decide_eq_decide.2 (by omega)]
    rfl
  have hv : readV b k = readV (b.drop k) 0 := by
    unfold readV
    rw [getD_drop, List.drop_drop, Nat.add_zero]
    rfl
  have hg : (b.drop k).getD 0 0 = b.getD k 0 := by rw [getD_drop]; rfl
  by_cases h1 : k = b.length
  · have e2 : readAt (b.drop k) 0 = ⟨0, 0, 2⟩ := by unfold readAt; rw [if_neg (by omega), if_pos (by omega)]
    rw [e2]; unfold readAt; rw [if_neg (by omega), if_pos h1]; rfl
  · by_cases h2 : badForm (b.drop k) 0 = true
    · have e2 : readAt (b.drop k) 0 = ⟨0, 0, 4⟩ := by unfold readAt; rw [if_neg (by omega), if_neg (by omega), if_pos h2]
      rw [e2]; unfold readAt; rw [if_neg (by omega), if_neg h1, hf, if_pos h2]; rfl
    · by_cases h3 : b.length < k + 1 + b.getD k 0
      · have e2 : readAt (b.drop k) 0 = ⟨0, 0, 2⟩ := by unfold readAt; rw [if_neg (by omega), if_neg (by omega), if_neg h2, if_pos (by rw [hg]; omega)]
        rw [e2]; unfold readAt; rw [if_neg (by omega), if_neg h1, hf, if_neg h2, if_pos h3]; rfl
      · have e2 : readAt (b.drop k) 0 = ⟨readV (b.drop k) 0, 1 + b.getD k 0, 0⟩ := by unfold readAt; rw [if_neg (by omega), if_neg (by omega), if_neg h2, if_neg (by rw [hg]; omega), hg, Nat.zero_add]
        rw [e2]; unfold readAt; rw [if_neg (by omega), if_neg h1, hf, if_neg h2, if_neg h3, hv, if_pos rfl, Nat.add_assoc]
/-! what is torn -/
/-- the last byte turned, or not -/
def turnL (t : Bool) (q : List Nat) : List Nat := if t = true then (match q.reverse with | [] => [] | x :: s => (s.reverse ++ [x ^^^ 1])) else q
theorem turnL_length (t : Bool) (q : List Nat) : (turnL t q).length = q.length := by
  unfold turnL
  split
  · rcases h : q.reverse with _ | ⟨x, s⟩
    · have := congrArg List.length h; simp at this; simp [this]
    · have := congrArg List.length h; simp at this ⊢; omega
  · rfl
theorem turnL_get {t : Bool} {q : List Nat} {j : Nat} (hj : j + 1 < q.length) : (turnL t q).getD j 0 = q.getD j 0 := by
  unfold turnL
  split
  · rcases h : q.reverse with _ | ⟨x, s⟩
    · have hq : q = [] := by simpa using h
      subst hq
      simp at hj
    · have hq : q = s.reverse ++ [x] := by rw [← List.reverse_reverse q, h]; simp
      subst hq
      simp only [List.length_append, List.length_reverse, List.length_singleton] at hj
      simp only [List.getD, List.getElem?_append_left (show j < s.reverse.length by simp; omega)]
  · rfl
theorem turnL_take {t : Bool} {q : List Nat} {k : Nat} (hk : k < q.length) : (turnL t q).take k = q.take k := by
  unfold turnL
  split
  · rcases h : q.reverse with _ | ⟨x, s⟩
    · have := congrArg List.length h; simp at this; simp [this]
    · have hq : q = s.reverse ++ [x] := by rw [← List.reverse_reverse q, h]; simp
      subst hq
      simp only [List.length_append, List.length_reverse, List.length_singleton] at hk
      rw [List.take_append_of_le_length (by simp; omega), List.take_append_of_le_length (by simp; omega)]
  · rfl
theorem xor1_ne (x : Nat) : x ^^^ 1 ≠ x := fun h => by
  have : (x ^^^ 1) ^^^ x = x ^^^ x := by rw [h]
  rw [Nat.xor_self, Nat.xor_comm x 1, Nat.xor_assoc, Nat.xor_self] at this
  cases this
theorem turnL_ne {q : List Nat} (h : q ≠ []) : turnL true q ≠ q := by
  unfold turnL
  rw [if_pos rfl]
  rcases hr : q.reverse with _ | ⟨x, s⟩
  · exact absurd (by simpa using hr) h
  · have hq : q = s.reverse ++ [x] := by rw [← List.reverse_reverse q, hr]; simp
    subst hq
    intro e
    have := List.append_cancel_left e
    injection this with h1
    exact xor1_ne x h1
theorem turnL_app {t : Bool} {p q : List Nat} (h : q ≠ []) : turnL t (p ++ q) = p ++ turnL t q := by
  unfold turnL
  split
  · rcases hr : q.reverse with _ | ⟨x, s⟩
    · exact absurd (by simpa using hr) h
    · have hq : q = s.reverse ++ [x] := by rw [← List.reverse_reverse q, hr]; simp
      subst hq
      simp
  · rfl
theorem turnL_nil (t : Bool) : turnL t [] = [] := by cases t <;> rfl
/-- a record that is cut off, or whose last byte is turned, is none -/
theorem one_torn {r : List Nat} (hl : r.length < 281474976710656) {m : Nat} {t : Bool} (hm : m ≤ (recB r).length) (ht : m < (recB r).length ∨ t = true) : oneM (turnL t ((recB r).take m)) = none := by
  have hlr := recB_length r
  have h8 := lenB_le r.length
  have hlen : (turnL t ((recB r).take m)).length = m := by rw [turnL_length, List.length_take]; omega
  rcases hq : oneM (turnL t ((recB r).take m)) with _ | y
  · rfl
  · exfalso
    have hp := one_some hq
    have hy5 := recB_ge y
    have hly := recB_length y
    have hpl := hp.length_le
    rw [hlen] at hpl
    have hy8 := lenB_le y.length
    obtain ⟨s, hs⟩ := hp
    -- the first byte: how long the number is
    have g0 : lenB y.length = lenB r.length := by
      have e1 : (turnL t ((recB r).take m)).getD 0 0 = lenB y.length := by rw [← hs]; simp [recB, headB, numB, List.getD]
      rw [turnL_get (by rw [List.length_take]; omega)] at e1
      rw [← e1]
      have : ((recB r).take m).getD 0 0 = (recB r).getD 0 0 := by simp only [List.getD, List.getElem?_take, if_pos (show 0 < m by omega)]
      rw [this]
      simp [recB, headB, numB, List.getD]
    by_cases hmm : m ≤ 1 + lenB r.length
    · rw [g0] at hly; omega
    · -- the number is whole
      have e2 : ((recB r).take m).take (1 + lenB r.length) = numB r.length := by
        rw [List.take_take, Nat.min_eq_left (by omega)]
        unfold recB headB
        rw [List.append_assoc, ← numB_length, List.take_left]
      have e3 : (turnL t ((recB r).take m)).take (1 + lenB r.length) = numB y.length := by
        rw [← hs, ← g0]
        unfold recB headB
        rw [List.append_assoc, List.append_assoc, ← numB_length, List.take_left]
      rw [turnL_take (by rw [List.length_take]; omega), e2] at e3
      have hyl : y.length = r.length := ((numB_inj (by omega) (by omega)).1 e3).symm
      have hm2 : m = (recB r).length := by rw [hyl] at hly; omega
      subst hm2
      have htt : t = true := by rcases ht with h | h; omega; exact h
      subst htt
      rw [List.take_of_length_le (Nat.le_refl _)] at hs
      have hs0 : s = [] := by
        have := congrArg List.length hs
        rw [List.length_append, turnL_length] at this
        rw [hyl] at hly
        exact List.eq_nil_of_length_eq_zero (by omega)
      rw [hs0, List.append_nil] at hs
      -- all but the last four bytes are the same: so the record is the same
      have e4 : headB y = headB r := by
        have h1 : (recB y).take (headB y).length = headB y := by unfold recB; rw [List.take_left]
        have h2 : (recB r).take (headB r).length = headB r := by unfold recB; rw [List.take_left]
        have h3 : (headB y).length = (headB r).length := by rw [headB_length, headB_length, hyl]
        rw [← h1, hs, h3, turnL_take (by rw [headB_length]; omega), h2]
      have e5 : recB y = recB r := by unfold recB; rw [e4]
      rw [e5] at hs
      exact turnL_ne (fun h => by rw [h] at hlr; simp at hlr) hs.symm
end Go.Proofs.YtdlghabpnpbebaaDoor.Wal
