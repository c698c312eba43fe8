/- Plain mathematics of PackBack: what was written is read. No program in sight. -/
import Derived.Test.YtdlghabpnpbebaaDoorPackMath
import Derived.Test.YtdlghabpnpbebaaDoorBytesU
namespace Go.Proofs.YtdlghabpnpbebaaDoor.Pack
open Go.Proofs.YtdlghabpnpbebaaDoor.Num Go.Proofs.YtdlghabpnpbebaaDoor.Mem Go.Proofs.YtdlghabpnpbebaaDoor.Shift Go.RowKit

def flagN (b : Bool) : Nat := if b then 1 else 0
/-- a text as it is packed -/
def textB (s : ByteArray) : List Nat := numB s.size ++ sB s
theorem num_back {v : Nat} (hv : v < 18446744073709551616) (rest : List Nat) : RS.numV ⟨numB v ++ rest, 0⟩ = v ∧ RS.numR ⟨numB v ++ rest, 0⟩ = ⟨rest, 0⟩ := by
  have h := read_written hv rest
  constructor
  · unfold RS.numV
    rw [if_pos rfl]
    show (readAt (numB v ++ rest) 0).v = v
    rw [h]
  · unfold RS.numR
    rw [if_pos rfl]
    show (if (readAt (numB v ++ rest) 0).err = 0 then (⟨(numB v ++ rest).drop (readAt (numB v ++ rest) 0).next, 0⟩ : RS) else _) = _
    rw [h]
    rw [if_pos rfl, ← numB_length, List.drop_left]
theorem byte_back (x : Nat) (rest : List Nat) : RS.byteV ⟨x :: rest, 0⟩ = x ∧ RS.byteR ⟨x :: rest, 0⟩ = ⟨rest, 0⟩ := by
  constructor
  · unfold RS.byteV; rw [if_pos rfl]; rfl
  · unfold RS.byteR; rw [if_pos rfl, if_neg (by simp)]; rfl
theorem flag_back (b : Bool) (rest : List Nat) : RS.flagV ⟨flagN b :: rest, 0⟩ = b ∧ RS.flagR ⟨flagN b :: rest, 0⟩ = ⟨rest, 0⟩ := by
  unfold RS.flagV RS.flagR
  rw [(byte_back _ rest).1, (byte_back _ rest).2]
  cases b
  · exact ⟨by decide, by rw [if_neg (by decide)]⟩
  · exact ⟨by decide, by rw [if_neg (by decide)]⟩
theorem text_back {s : ByteArray} (hs : s.size < 18446744073709551616) (rest : List Nat) : RS.textV ⟨textB s ++ rest, 0⟩ s.size = sB s ∧ RS.textR ⟨textB s ++ rest, 0⟩ s.size = ⟨rest, 0⟩ := by
  unfold textB
  rw [List.append_assoc]
  obtain ⟨h1, h2⟩ := num_back hs (sB s ++ rest)
  have hb : RS.textB ⟨numB s.size ++ (sB s ++ rest), 0⟩ s.size = 0 := by
    unfold RS.textB
    rw [h1, h2]
    rw [if_neg (by simp), if_neg (by omega), if_neg (by simp [sB_length])]
  unfold RS.textV RS.textR
  rw [hb, h1, h2, if_pos rfl, if_pos rfl]
  have hl := sB_length s
  constructor
  · show (sB s ++ rest).take s.size = sB s
    rw [← hl, List.take_left]
  · show (⟨(sB s ++ rest).drop s.size, 0⟩ : RS) = _
    rw [← hl, List.drop_left]
/-- a thing written -/
structure ThingM where
  k : Nat
  v : Nat
  s : ByteArray
def ThingM.Ok (x : ThingM) : Prop := x.k < 256 ∧ x.v < 18446744073709551616 ∧ x.s.size ≤ 140737488351232
instance : Inhabited ThingM := ⟨⟨0, 0, ⟨#[]⟩⟩⟩
def thingE : Elem ThingM := ⟨fun x => [.int .u8 (x.k : Int), .int .u64 (x.v : Int), .string x.s], 3, by decide, fun _ => rfl, fun x u hu => by
  simp only [List.mem_cons, List.not_mem_nil, or_false] at hu
  rcases hu with rfl | rfl | rfl <;> rfl⟩
def pk (x : ThingM) : List Nat := if x.k = 0 then numB x.v else if x.k = 1 then [x.v % 256] else if x.k = 2 then [flagN (decide (x.v % 2 = 1))] else textB x.s
def pks (ls : List ThingM) : List Nat := ls.flatMap pk
theorem pk_length (x : ThingM) : (pk x).length ≤ 9 + x.s.size := by
  unfold pk
  split
  · have := numB_length x.v; have := lenB_le x.v; omega
  · split
    · simp; omega
    · split
      · simp; omega
      · unfold textB
        have := numB_length x.s.size; have := lenB_le x.s.size
        rw [List.length_append, sB_length]; omega
theorem pk_all (x : ThingM) : AllB (pk x) := by
  unfold pk
  split
  · exact numB_all _
  · split
    · intro y hy; simp at hy; omega
    · split
      · intro y hy
        simp at hy
        subst hy
        unfold flagN; split <;> decide
      · intro y hy
        rcases List.mem_append.1 hy with h | h
        · exact numB_all _ y h
        · exact sB_all _ y h
theorem pks_all (ls : List ThingM) : AllB (pks ls) := fun y hy => by
  obtain ⟨x, _, h⟩ := List.mem_flatMap.1 hy
  exact pk_all x y h
theorem pks_length (ls : List ThingM) : (pks ls).length ≤ 9 * ls.length + (ls.map fun x => x.s.size).sum := by
  unfold pks
  induction ls with
  | nil => simp
  | cons x l ih =>
    have := pk_length x
    rw [List.flatMap_cons, List.length_append, List.map_cons, List.sum_cons, List.length_cons]
    omega
theorem pks_take {ls : List ThingM} {j : Nat} {x : ThingM} (h : ls[j]? = some x) : pks (ls.take (j + 1)) = pks (ls.take j) ++ pk x := by
  obtain ⟨hk, rfl⟩ := List.getElem?_eq_some_iff.1 h
  unfold pks
  rw [List.take_succ_eq_append_getElem hk, List.flatMap_append]; simp
theorem pks_drop {ls : List ThingM} {j : Nat} {x : ThingM} (h : ls[j]? = some x) : pks (ls.drop j) = pk x ++ pks (ls.drop (j + 1)) := by
  obtain ⟨hk, rfl⟩ := List.getElem?_eq_some_iff.1 h
  unfold pks
  rw [List.drop_eq_getElem_cons hk, List.flatMap_cons]
theorem size_take (ls : List ThingM) (j : Nat) : (pks (ls.take j)).length ≤ (pks ls).length := by
  have : pks ls = pks (ls.take j) ++ pks (ls.drop j) := by
    unfold pks
    rw [← List.flatMap_append, List.take_append_drop]
  rw [this, List.length_append]; omega
end Go.Proofs.YtdlghabpnpbebaaDoor.Pack
