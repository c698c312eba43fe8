/- Plain mathematics of layer 41 (past): which facts are live. -/
import Derived.Test.YtnmcclkpgbdenaaPastMem
namespace Go.Proofs.Ytnmcclkpgbdenaa.Past
open Go.RowKit Go.Proofs.Ytnmcclkpgbdenaa.Mem Go.Proofs.Ytnmcclkpgbdenaa.Mask

theorem allI_range {m : List Nat} {x : Int} (h : x ∈ allI m) : 0 ≤ x ∧ x < 64 * m.length ∧ hasI m x = true := by
  unfold allI allTo at h
  obtain ⟨n, hn, rfl⟩ := List.mem_map.1 h
  obtain ⟨h1, h2⟩ := List.mem_filter.1 hn
  have := List.mem_range.1 h1
  exact ⟨by omega, by omega, by simp [hasI, h2]⟩
theorem mem_allI {m : List Nat} {x : Int} : x ∈ allI m ↔ 0 ≤ x ∧ hasI m x = true := by
  refine ⟨fun h => ⟨(allI_range h).1, (allI_range h).2.2⟩, fun ⟨h0, h⟩ => ?_⟩
  unfold allI allTo
  have hN : hasN m x.toNat = true := by simpa [hasI, h0] using h
  refine List.mem_map.2 ⟨x.toNat, List.mem_filter.2 ⟨List.mem_range.2 ?_, hN⟩, by omega⟩
  rcases Nat.lt_or_ge x.toNat (64 * m.length) with h1 | h1
  · exact h1
  · rw [hasN_out h1] at hN; cases hN
theorem hasN_one (n k : Nat) : hasN (oneN n) k = decide (k = n) := by
  unfold hasN
  rw [one_word]
  by_cases h : k / 64 = n / 64
  · rw [if_pos h, Nat.testBit_two_pow]
    have : n % 64 = k % 64 ↔ k = n := by omega
    simp [this]
  · rw [if_neg h]
    have : k ≠ n := fun e => h (by rw [e])
    simp [this]
theorem hasN_put (m : List Nat) (n : Int) (k : Nat) : hasN (putI m n) k = (hasN m k || decide (0 ≤ n ∧ n < 1024 ∧ (k : Int) = n)) := by
  unfold putI
  split
  · rename_i h
    rw [hasN_trim, decide_eq_false (by omega), Bool.or_false]
  · rename_i h
    rw [hasN_join, hasN_one]
    congr 1
    rw [Bool.eq_iff_iff, decide_eq_true_iff, decide_eq_true_iff]
    omega
theorem hasN_of_from (ns : List Int) (m : List Nat) (k : Nat) : hasN (ns.foldl putI m) k = (hasN m k || ns.any fun n => decide (0 ≤ n ∧ n < 1024 ∧ (k : Int) = n)) := by
  induction ns generalizing m with
  | nil => simp
  | cons n ns ih => rw [List.foldl_cons, ih, hasN_put, List.any_cons, Bool.or_assoc]
theorem hasI_of (ns : List Int) (x : Int) : hasI (ofI ns) x = true ↔ 0 ≤ x ∧ x < 1024 ∧ x ∈ ns := by
  unfold hasI ofI
  rw [hasN_of_from]
  have h0 : hasN [] x.toNat = false := hasN_out (by simp)
  rw [h0, Bool.false_or, Bool.and_eq_true, decide_eq_true_iff, List.any_eq_true]
  constructor
  · rintro ⟨h1, n, hn, h2⟩
    have h3 := of_decide_eq_true h2
    obtain rfl : x = n := by omega
    exact ⟨h1, h3.2.1, hn⟩
  · rintro ⟨h1, h2, h3⟩
    exact ⟨h1, x, h3, decide_eq_true ⟨h1, h2, by omega⟩⟩
theorem hasI_there (N : Nat) (m : List Nat) (x : Int) : hasI (thereM N m) x = true ↔ 0 ≤ x ∧ x < 1024 ∧ x < (N : Int) ∧ hasI m x = true := by
  unfold thereM
  rw [hasI_of, List.mem_filter, mem_allI, decide_eq_true_iff]
  constructor
  · rintro ⟨h1, h2, ⟨_, h3⟩, h4⟩; exact ⟨h1, h2, h4, h3⟩
  · rintro ⟨h1, h2, h3, h4⟩; exact ⟨h1, h2, ⟨h1, h4⟩, h3⟩
theorem there_lt {N : Nat} {m : List Nat} {x : Int} (h : x ∈ allI (thereM N m)) : 0 ≤ x ∧ x < (N : Int) ∧ hasI m x = true := by
  have h1 := (mem_allI.1 h).2
  rw [hasI_there] at h1
  exact ⟨h1.1, h1.2.2.1, h1.2.2.2⟩
theorem dead_iff {fs : List FactM} (hf : fs.length ≤ 1024) (s : List Nat) (k : Int) : deadM fs (thereM fs.length s) k = true ↔ ∃ n : Int, 0 ≤ n ∧ n < fs.length ∧ hasI s n = true ∧ outsM fs n k = true := by
  unfold deadM
  rw [List.any_eq_true]
  constructor
  · rintro ⟨n, hn, ho⟩
    obtain ⟨h1, h2, h3⟩ := there_lt hn
    exact ⟨n, h1, h2, h3, ho⟩
  · rintro ⟨n, h1, h2, h3, ho⟩
    exact ⟨n, mem_allI.2 ⟨h1, (hasI_there _ _ _).2 ⟨h1, by omega, h2, h3⟩⟩, ho⟩
theorem hasI_live {fs : List FactM} (hf : fs.length ≤ 1024) (s : List Nat) (k : Int) :
    hasI (liveM fs s) k = true ↔ 0 ≤ k ∧ k < fs.length ∧ hasI s k = true ∧ (fs.getD k.toNat default).e.kind = 1 ∧ ∀ n : Int, 0 ≤ n → n < fs.length → hasI s n = true → outsM fs n k = false := by
  unfold liveM
  rw [hasI_of, List.mem_filter, mem_allI, hasI_there]
  unfold keepM
  rw [Bool.and_eq_true, decide_eq_true_iff, Bool.not_eq_true']
  have hd := dead_iff hf s k
  constructor
  · rintro ⟨h1, h2, ⟨_, _, _, h3, h4⟩, h5, h6⟩
    refine ⟨h1, h3, h4, h5, fun n a b c => ?_⟩
    rw [← Bool.not_eq_true]
    intro ho
    rw [hd.2 ⟨n, a, b, c, ho⟩] at h6
    cases h6
  · rintro ⟨h1, h3, h4, h5, h6⟩
    refine ⟨h1, by omega, ⟨h1, h1, by omega, h3, h4⟩, h5, ?_⟩
    rw [← Bool.not_eq_true]
    intro hx
    obtain ⟨n, a, b, c, ho⟩ := hd.1 hx
    rw [h6 n a b c] at ho
    cases ho
theorem live_all (fs : List FactM) (s : List Nat) : AllW (liveM fs s) ∧ (liveM fs s).length ≤ 16 := ⟨of_all _, of_length _⟩
theorem put_trim (m : List Nat) (n : Int) : trim (putI m n) = putI m n := by
  unfold putI
  split
  · exact trim_trim m
  · exact trim_trim _
theorem of_trim (ns : List Int) : trim (ofI ns) = ofI ns := by
  unfold ofI
  suffices ∀ m, trim m = m → trim (ns.foldl putI m) = ns.foldl putI m from this [] rfl
  induction ns with
  | nil => exact fun m h => h
  | cons n ns ih => exact fun m _ => ih _ (put_trim m n)
/-- the live ones of the live ones are these -/
theorem live_live {fs : List FactM} (hf : fs.length ≤ 1024) (s : List Nat) : liveM fs (liveM fs s) = liveM fs s := by
  have h : ∀ n, hasN (liveM fs (liveM fs s)) n = hasN (liveM fs s) n := fun n => by
    have e : ∀ t, hasI (liveM fs t) (n : Int) = hasN (liveM fs t) n := fun t => by simp [hasI]
    rw [← e, ← e, Bool.eq_iff_iff, hasI_live hf]
    constructor
    · exact fun h => h.2.2.1
    · intro h
      have h1 := (hasI_live hf s n).1 h
      exact ⟨h1.1, h1.2.1, h, h1.2.2.2.1, fun m a b c => h1.2.2.2.2 m a b ((hasI_live hf s m).1 c).2.2.1⟩
  have h2 := set_ext (live_all fs (liveM fs s)).1 (live_all fs s).1 h
  unfold liveM at h2 ⊢
  rw [of_trim, of_trim] at h2
  exact h2
end Go.Proofs.Ytnmcclkpgbdenaa.Past
