/- slices.Compact of numbers (bytes), in a row of the call's own. -/
import Derived.Test.YtfkfpanhbanljaaGreatDoorSet42
import Derived.Test.YtfkfpanhbanljaaGreatDoorSet18
import Derived.Test.YtfkfpanhbanljaaGreatDoorSet13
import Derived.BigQuiet
import Derived.Deep.DeepCutAuto
namespace Go.Proofs.YtfkfpanhbanljaaGreatDoor.SortY
open Go.Proofs.YtfkfpanhbanljaaGreatDoor.SortW Go.RowKit Go.Proofs.YtfkfpanhbanljaaGreatDoor.Mem

/-- each number once, where the same ones stand side by side -/
def ddStep (acc : List Nat) (x : Nat) : List Nat := if acc.getLast? = some x then acc else acc ++ [x]
def dd (l : List Nat) : List Nat := l.foldl ddStep []
theorem dd_snoc (l : List Nat) (x : Nat) : dd (l ++ [x]) = ddStep (dd l) x := by unfold dd; rw [List.foldl_append]; rfl
theorem dd_next {l : List Nat} {k x : Nat} (hx : l[k]? = some x) : dd (l.take (k + 1)) = ddStep (dd (l.take k)) x := by
  obtain ⟨h1, h2⟩ := List.getElem?_eq_some_iff.1 hx
  rw [List.take_succ_eq_append_getElem h1, h2, dd_snoc]
theorem ddStep_last (acc : List Nat) (x : Nat) : (ddStep acc x).getLast? = some x := by
  unfold ddStep
  split
  · assumption
  · simp
theorem dd_last {l : List Nat} {k x : Nat} (hx : l[k]? = some x) : (dd (l.take (k + 1))).getLast? = some x := by rw [dd_next hx]; exact ddStep_last _ _
theorem dd_step {l : List Nat} {k x y : Nat} (hx : l[k]? = some x) (hy : l[k + 1]? = some y) : dd (l.take (k + 1 + 1)) = if x = y then dd (l.take (k + 1)) else dd (l.take (k + 1)) ++ [y] := by
  rw [dd_next hy]
  unfold ddStep
  rw [dd_last hx]
  by_cases e : x = y
  · rw [if_pos e, if_pos (by rw [e])]
  · rw [if_neg e, if_neg (fun h => e (Option.some.inj h))]
theorem dd_mem : ∀ (l : List Nat) (acc : List Nat) (y : Nat), y ∈ l.foldl ddStep acc ↔ y ∈ acc ∨ y ∈ l
  | [], _, _ => by simp
  | x :: l, acc, y => by
    rw [List.foldl_cons, dd_mem l]
    unfold ddStep
    split
    · rename_i h
      have hm : x ∈ acc := List.mem_of_getLast? h
      rw [List.mem_cons]
      constructor
      · rintro (h | h)
        · exact .inl h
        · exact .inr (.inr h)
      · rintro (h | rfl | h)
        · exact .inl h
        · exact .inl hm
        · exact .inr h
    · simp only [List.mem_append, List.mem_cons, List.not_mem_nil, or_false]
      constructor
      · rintro ((h | h) | h)
        · exact .inl h
        · exact .inr (.inl h)
        · exact .inr (.inr h)
      · rintro (h | h | h)
        · exact .inl (.inl h)
        · exact .inl (.inr h)
        · exact .inr h
theorem dd_rising : ∀ (l acc : List Nat), l.Pairwise (· ≤ ·) → acc.Pairwise (· < ·) → (∀ a ∈ acc, ∀ b ∈ l, a ≤ b) → (l.foldl ddStep acc).Pairwise (· < ·)
  | [], _, _, h, _ => h
  | x :: l, acc, hl, ha, hm => by
    have hl2 := List.pairwise_cons.1 hl
    rw [List.foldl_cons]
    unfold ddStep
    split
    · exact dd_rising l acc hl2.2 ha fun a h1 b h2 => hm a h1 b (List.mem_cons_of_mem _ h2)
    · rename_i hne
      refine dd_rising l _ hl2.2 ?_ ?_
      · rw [List.pairwise_append]
        refine ⟨ha, List.pairwise_singleton _ _, fun a h1 b h2 => ?_⟩
        obtain rfl := List.mem_singleton.1 h2
        have h3 := hm a h1 b (List.mem_cons_self ..)
        rcases Nat.lt_or_ge a b with h4 | h4
        · exact h4
        · exfalso
          obtain rfl : a = b := by omega
          obtain ⟨z, hz⟩ : ∃ z, acc.getLast? = some z := by
            cases h5 : acc.getLast? with
            | some z => exact ⟨z, rfl⟩
            | none => rw [List.getLast?_eq_none_iff.1 h5] at h1; cases h1
          have hz2 : z ∈ acc := List.mem_of_getLast? hz
          have h6 := hm z hz2 a (List.mem_cons_self ..)
          obtain ⟨ini, rfl⟩ : ∃ ini, acc = ini ++ [z] := by
            obtain ⟨ini, h7⟩ := List.getLast?_eq_some_iff.1 hz
            exact ⟨ini, h7⟩
          rcases List.mem_append.1 h1 with h8 | h8
          · have := (List.pairwise_append.1 ha).2.2 a h8 z (List.mem_singleton.2 rfl)
            omega
          · obtain rfl := List.mem_singleton.1 h8
            exact hne hz
      · intro a h1 b h2
        rcases List.mem_append.1 h1 with h3 | h3
        · exact hm a h3 b (List.mem_cons_of_mem _ h2)
        · rw [List.mem_singleton.1 h3]; exact hl2.1 b h2
/-- a number, as an element of a row -/
def byteE : Elem Nat := ⟨fun x => [.int .u8 (x : Int)], 1, by decide, fun _ => rfl, fun _ u hu => by rcases List.mem_singleton.1 hu with rfl; rfl⟩
theorem byteE_cells (l : List Nat) : byteE.cells l = BB l := by
  unfold Elem.cells BB
  induction l with
  | nil => rfl
  | cons x l ih => rw [List.flatMap_cons, ih]; rfl
theorem byte_own {w : World} {base : Nat} {v : Value} {l : List Nat} : Own w base 5 v (BB l) ↔ byteE.Own w base 5 v l := by
  unfold Own Elem.Own OwnK
  rw [byteE_cells, BB_length]
  exact Iff.rfl
end Go.Proofs.YtfkfpanhbanljaaGreatDoor.SortY
