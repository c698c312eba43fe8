/- []byte: append to what an object holds, told with what turns. -/
import Derived.Test.YtdlghabpnpbebaaDoorHold
import Derived.Test.YtdlghabpnpbebaaDoorBytes
import Derived.Lib.ConvBytes
namespace Go.Proofs.YtdlghabpnpbebaaDoor.Mem
open Go.RowKit

theorem wpl_appU {w : World} {ops : Array Oper} {rest : List Oper} {o : Oper} {a : Act} {Q : Exit → Act → World → Prop} (hgd : o.guard = none) (s x : Operand)
    (ho : o.op = .call { callee := .builtin .append, args := #[s, x], argTypes := #[22, 22] })
    (v : Value) (l : List Nat) (hs : a.eval s = v) (hown : Own w 0 5 v (BB l))
    (B : Nat) (A : Option Addr) (m c : Nat) (news : List Nat) (hx : a.eval x = .slice A m c) (hm : m = news.length) (hr : Rd w B A (BB news))
    (hsz : l.length + news.length ≤ 140737488355328)
    (h : ∀ A' c' w' r, Hid (r = l ++ news) → Own w' 0 5 (.slice A' r.length c') (BB r) → (∀ S : Nat → Prop, (∀ k, v.ownBlock = some k → S k) → Upd S w w') → (∀ x, A' = some x → v.ownBlock = some x.block ∨ w.heap.size ≤ x.block) → wpList Tryd.prog ops Q rest (a.put o.dst (.slice A' r.length c')) w') : wpList Tryd.prog ops Q (o :: rest) a w := by
  obtain ⟨i0, hi0, hz0, hz1, hz2⟩ := info_parts u8_info
  refine wpList_plain hgd fun K hK => wp_append_at w s x 22 ho 1 0 5 i0 _ 1 Tryd.underlying22 hi0 hz0 hz1 hz2 rfl (by decide) v l.length (BB l) hs (by have := hown; unfold Own at this; rw [BB_length] at this; exact this) B A m c (BB news) hx (by rw [BB_length, hm, Nat.mul_one]) hr (BB_one _) (by rw [hm]; omega) (Nat.le_refl _) (Nat.zero_le _) ?_
  intro A' c' w' h1 h2 h3
  refine hK _ _ ?_
  have hl : l.length + m = (l ++ news).length := by rw [List.length_append, hm]
  rw [hl, ← BB_append] at h1
  rw [hl]
  refine h A' c' w' (l ++ news) rfl ?_ h2 h3
  unfold Own
  rw [BB_length]
  exact h1
/-- the same inside a region that draws its order -/
theorem step_appU {w : World} {ops : Array Oper} {o : Oper} {a : Act} {K : Act → World → Prop} {Q : Exit → Act → World → Prop} {E : Prop} (hgd : o.guard = none) (s x : Operand)
    (ho : o.op = .call { callee := .builtin .append, args := #[s, x], argTypes := #[22, 22] })
    (v : Value) (l : List Nat) (hs : a.eval s = v) (hown : Own w 0 5 v (BB l))
    (B : Nat) (A : Option Addr) (m c : Nat) (news : List Nat) (hx : a.eval x = .slice A m c) (hm : m = news.length) (hr : Rd w B A (BB news))
    (hsz : l.length + news.length ≤ 140737488355328)
    (h : ∀ A' c' w' r, Kept (r = l ++ news) → Own w' 0 5 (.slice A' r.length c') (BB r) → (∀ S : Nat → Prop, (∀ k, v.ownBlock = some k → S k) → Upd S w w') → (∀ x, A' = some x → v.ownBlock = some x.block ∨ w.heap.size ≤ x.block) → K (a.put o.dst (.slice A' r.length c')) w') :
    if Region.wanted o (yielded ops a.tmps) = true then Oper.wp Tryd.prog o a w K Q else E := by
  have hw : Region.wanted o (yielded ops a.tmps) = true := by simp [Region.wanted, hgd]
  rw [if_pos hw]
  obtain ⟨i0, hi0, hz0, hz1, hz2⟩ := info_parts u8_info
  refine wp_append_at w s x 22 ho 1 0 5 i0 _ 1 Tryd.underlying22 hi0 hz0 hz1 hz2 rfl (by decide) v l.length (BB l) hs (by have := hown; unfold Own at this; rw [BB_length] at this; exact this) B A m c (BB news) hx (by rw [BB_length, hm, Nat.mul_one]) hr (BB_one _) (by rw [hm]; omega) (Nat.le_refl _) (Nat.zero_le _) ?_
  intro A' c' w' h1 h2 h3
  have hl : l.length + m = (l ++ news).length := by rw [List.length_append, hm]
  rw [hl, ← BB_append] at h1
  rw [hl]
  refine h A' c' w' (l ++ news) ⟨rfl⟩ ?_ h2 h3
  unfold Own
  rw [BB_length]
  exact h1
/-- a text's bytes -/
def sB (s : ByteArray) : List Nat := s.data.toList.map UInt8.toNat
theorem sB_length (s : ByteArray) : (sB s).length = s.size := by simp [sB]
theorem sB_all (s : ByteArray) : AllB (sB s) := fun x hx => by
  simp only [sB, List.mem_map] at hx
  obtain ⟨y, _, rfl⟩ := hx
  exact y.toNat_lt
theorem strB_sB (s : ByteArray) : strB (sB s) = s := by
  unfold strB sB
  rw [List.map_map]
  have : (UInt8.ofNat ∘ UInt8.toNat) = id := funext fun x => by simp
  rw [this, List.map_id]
theorem sB_strB {l : List Nat} (h : AllB l) : sB (strB l) = l := by
  unfold strB sB
  simp only [List.map_map]
  rw [show l.map (UInt8.toNat ∘ UInt8.ofNat) = l.map id from List.map_congr_left fun x hx => by simp [Nat.mod_eq_of_lt (h x hx)], List.map_id]
/-- []byte(s): new bytes that read as the text's -/
theorem str_bytes (w : World) (s : ByteArray) : ∃ c w', (convert 9 22 (.string s)).run Tryd.prog w = .ok (.slice (some ⟨w.heap.size, 0, none⟩) s.size c) w' ∧
    Rd w' w'.heap.size (some ⟨w.heap.size, 0, none⟩) (BB (sB s)) ∧ Below w.heap.size w w' ∧ w.heap.size < w'.heap.size := by
  have hz := Lib.bytesWorld_size w 5 s
  refine ⟨_, _, Lib.run_convert_string_bytes (P := Tryd.prog) w 9 22 5 s Tryd.underlying9 Tryd.underlying22 Tryd.underlying5, fun _ => ⟨_, 0, rfl, by omega, fun j u hu => ?_⟩, ⟨?_, ?_, ?_, by omega, fun k hk => Lib.bytesWorld_at_old w 5 s k hk⟩, by omega⟩
  · have hj : j < s.size := by
      have := (List.getElem?_eq_some_iff.1 hu).1
      rw [BB_length, sB_length] at this; exact this
    rw [Nat.zero_add, Lib.bytesWorld_cell w 5 s j hj, ← hu, BB_get _ _ (by rw [sB_length]; exact hj)]
    simp [sB, List.getD, hj]
  · simp [Lib.bytesWorld, World.freeze, World.alloc, World.drew, -World.alloc_eq, -World.drew_eq]
  · simp [Lib.bytesWorld, World.freeze, World.alloc, World.drew, -World.alloc_eq, -World.drew_eq]
  · simp [Lib.bytesWorld, World.freeze, World.alloc, World.drew, -World.alloc_eq, -World.drew_eq]
end Go.Proofs.YtdlghabpnpbebaaDoor.Mem
