import Derived.Test.YtfkfpanhbanljaaGreatDoorListSort
import Derived.Test.YtfkfpanhbanljaaGreatDoorSortYC
import Derived.Test.YtfkfpanhbanljaaGreatDoorSet42
import Derived.Test.YtfkfpanhbanljaaGreatDoorSet39
import Derived.Test.YtfkfpanhbanljaaGreatDoorSet45
import Derived.BigQuiet
import Derived.Deep.DeepCutAuto
import Derived.KernelRfl
/- Layer 44 (list): the first bytes of titles. -/
namespace Go.Proofs.YtfkfpanhbanljaaGreatDoor.List44
open Go.RowKit Go.Proofs.YtfkfpanhbanljaaGreatDoor.Mem Go.Proofs.YtfkfpanhbanljaaGreatDoor.Card Go.Proofs.YtfkfpanhbanljaaGreatDoor.Laid Go.Proofs.YtfkfpanhbanljaaGreatDoor.Fold Go.Proofs.YtfkfpanhbanljaaGreatDoor.Twin Go.Proofs.YtfkfpanhbanljaaGreatDoor.Stab

/-- the first byte, if there is one -/
def headB (x : CardM) : List Nat := (sB (foldB (titleOf x.ls))).take 1
def headsL (l : List CardM) : List Nat := l.flatMap headB
theorem head_one {s : ByteArray} (h : 0 < s.size) : (sB s).take 1 = [(s[0]'h).toNat] := by
  have h2 : 0 < (sB s).length := by rw [sB_length]; exact h
  rw [List.take_succ_eq_append_getElem h2]
  simp [sB]
  rfl
theorem head_none : (sB ⟨#[]⟩).take 1 = [] := rfl
theorem heads_next {l : List CardM} {k : Nat} {x : CardM} (hx : l[k]? = some x) : headsL (l.take (k + 1)) = headsL (l.take k) ++ headB x := by
  obtain ⟨h1, h2⟩ := List.getElem?_eq_some_iff.1 hx
  unfold headsL
  rw [List.take_succ_eq_append_getElem h1, h2, List.flatMap_append]
  simp
theorem heads_len : ∀ (l : List CardM), (headsL l).length ≤ l.length
  | [] => Nat.le_refl _
  | x :: l => by
    have := heads_len l
    unfold headsL at this ⊢
    rw [List.flatMap_cons, List.length_append, List.length_cons]
    have h2 : (headB x).length ≤ 1 := by unfold headB; rw [List.length_take]; omega
    omega
theorem dd_same (l : List Nat) : SortY.dd l = SortW.dd l := rfl
end Go.Proofs.YtfkfpanhbanljaaGreatDoor.List44

/- Layer 44 (list): the chapter's example. -/
namespace Go.Proofs.YtfkfpanhbanljaaGreatDoor.List44
open Go.RowKit Go.Proofs.YtfkfpanhbanljaaGreatDoor.Mem Go.Proofs.YtfkfpanhbanljaaGreatDoor.Card Go.Proofs.YtfkfpanhbanljaaGreatDoor.Laid Go.Proofs.YtfkfpanhbanljaaGreatDoor.Fold Go.Proofs.YtfkfpanhbanljaaGreatDoor.Twin Go.Proofs.YtfkfpanhbanljaaGreatDoor.Stab

/-- a card with a title -/
def oneC (cid : Nat) (s : ByteArray) (g : Nat) : CardM := ⟨cid, some ⟨g, 0, none⟩, [⟨1, s, none, [], 0⟩], 1⟩
theorem one_ok {W : World} {cid : Nat} {s : ByteArray} {g : Nat} (hk : Blk W g [.int .u8 1, .string s, .slice none 0 0] 44) (hc : cid < 18446744073709551616) : (oneC cid s g).Ok W W.heap.size :=
  ⟨hc, ⟨hk.rd, fun z hz => by
    simp only [oneC, List.mem_cons, List.not_mem_nil, or_false] at hz
    subst hz
    exact ⟨Mem.Rd.nil, by show (1 : Nat) < 256; decide, Nat.le_refl _, Nat.zero_le _⟩⟩, by show (1 : Nat) ≤ 1; decide, by show (1 : Nat) ≤ _; decide⟩
theorem one_short (cid : Nat) (s : ByteArray) (g : Nat) : (titleOf (oneC cid s g).ls).size ≤ s.size := title_size fun z hz => by
  simp only [oneC, List.mem_cons, List.not_mem_nil, or_false] at hz
  subst hz
  exact Nat.le_refl _
/-- the cards of the example -/
def exL (a b c : Nat) : List CardM := [oneC 1 ⟨#[98, 111, 98]⟩ a, oneC 2 ⟨#[65, 110, 110]⟩ b, oneC 3 ⟨#[]⟩ c]
theorem ex_sort (a b c : Nat) : (stab ltC (exL a b c)).map CardM.p = [(3, [(1, ⟨#[]⟩, [])]), (2, [(1, ⟨#[65, 110, 110]⟩, [])]), (1, [(1, ⟨#[98, 111, 98]⟩, [])])] := by kernel_rfl
theorem heads_p : ∀ {a b : List CardM}, a.map CardM.p = b.map CardM.p → headsL a = headsL b
  | [], [], _ => rfl
  | [], _ :: _, h => by cases h
  | _ :: _, [], h => by cases h
  | x :: a, y :: b, h => by
    simp only [List.map_cons, List.cons.injEq] at h
    have ih := heads_p h.2
    unfold headsL at ih ⊢
    rw [List.flatMap_cons, List.flatMap_cons, ih]
    unfold headB
    rw [(title_p h.1).1]
theorem ex_heads (a b c : Nat) : strB (normL (headsL [oneC 3 ⟨#[]⟩ c, oneC 2 ⟨#[65, 110, 110]⟩ b, oneC 1 ⟨#[98, 111, 98]⟩ a])) = ⟨#[97, 98]⟩ := by kernel_rfl
theorem three_of {α β : Type} {f : α → β} {l : List α} {p q r : β} (h : l.map f = [p, q, r]) : ∃ x y z, l = [x, y, z] ∧ f x = p ∧ f y = q ∧ f z = r := by
  match l, h with
  | [x, y, z], h => simp only [List.map_cons, List.map_nil, List.cons.injEq, and_true] at h; exact ⟨x, y, z, rfl, h.1, h.2.1, h.2.2⟩
end Go.Proofs.YtfkfpanhbanljaaGreatDoor.List44
