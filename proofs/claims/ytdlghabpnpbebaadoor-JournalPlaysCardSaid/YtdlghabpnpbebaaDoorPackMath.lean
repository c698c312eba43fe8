/- Plain mathematics of layer 4 (pack): a reader's bytes and first error; what each call gives and leaves. No program in sight. -/
import Derived.Test.YtdlghabpnpbebaaDoorNumMath
namespace Go.Proofs.YtdlghabpnpbebaaDoor.Pack
open Go.Proofs.YtdlghabpnpbebaaDoor.Num Go.Proofs.YtdlghabpnpbebaaDoor.Mem

/-- a reader: the bytes that are left, the first error -/
structure RS where
  l : List Nat
  bad : Nat
def RS.fail (r : RS) (e : Nat) : RS := if r.bad = 0 ∧ e ≠ 0 then ⟨[], e⟩ else r
def RS.numV (r : RS) : Nat := if r.bad = 0 then (readAt r.l 0).v else 0
def RS.numR (r : RS) : RS := if r.bad = 0 then (if (readAt r.l 0).err = 0 then ⟨r.l.drop (readAt r.l 0).next, 0⟩ else ⟨[], (readAt r.l 0).err⟩) else r
def RS.uptoV (r : RS) (most : Nat) : Nat := if most < r.numV then 0 else r.numV
def RS.uptoR (r : RS) (most : Nat) : RS := if most < r.numV then r.numR.fail 4 else r.numR
def RS.byteV (r : RS) : Nat := if r.bad = 0 then r.l.headD 0 else 0
def RS.byteR (r : RS) : RS := if r.bad = 0 then (if r.l = [] then ⟨[], 2⟩ else ⟨r.l.drop 1, 0⟩) else r
def RS.flagV (r : RS) : Bool := decide (r.byteV = 1)
def RS.flagR (r : RS) : RS := if 1 < r.byteV then r.byteR.fail 4 else r.byteR
def RS.textB (r : RS) (most : Nat) : Nat := if r.numR.bad ≠ 0 then r.numR.bad else if most < r.numV then 3 else if r.numR.l.length < r.numV then 2 else 0
def RS.textV (r : RS) (most : Nat) : List Nat := if r.textB most = 0 then r.numR.l.take r.numV else []
def RS.textR (r : RS) (most : Nat) : RS := if r.textB most = 0 then ⟨r.numR.l.drop r.numV, 0⟩ else ⟨[], r.textB most⟩
def RS.endR (r : RS) : RS := if 0 < r.l.length then r.fail 4 else r
/-- behind an error nothing is left; bytes are bytes -/
def RS.Ok (r : RS) : Prop := AllB r.l ∧ (r.bad ≠ 0 → r.l = []) ∧ r.l.length ≤ 140737488355328 ∧ r.bad < 9223372036854775807

theorem read_next_le {l : List Nat} (_ : (readAt l 0).err = 0) : (readAt l 0).next ≤ l.length := by
  unfold readAt
  split
  · simp
  · split
    · simp
    · split
      · simp
      · split
        · simp
        · rename_i h; simp only; omega
theorem read_v_err {l : List Nat} (k : Nat) (h : (readAt l k).err ≠ 0) : (readAt l k).v = 0 := by
  unfold readAt at h ⊢
  repeat' split
  all_goals first | rfl | skip
  rename_i h1 h2 h3 h4
  rw [if_neg h1, if_neg h2, if_neg h3, if_neg h4] at h
  exact absurd rfl h
theorem read_v_lt {l : List Nat} (hl : AllB l) (k : Nat) : (readAt l k).v < 18446744073709551616 := by
  unfold readAt
  repeat' split
  all_goals first | (show (0 : Nat) < _; decide) | skip
  rename_i h3 h4
  show readV l k < _
  unfold readV
  refine beN_lt64 (fun x hx => hl x (List.mem_of_mem_drop (List.mem_of_mem_take hx))) ?_
  unfold badForm at h3
  rw [List.length_take]
  simp only [Bool.or_eq_true, decide_eq_true_eq, not_or] at h3
  omega
theorem zlt : (0 : Nat) < 9223372036854775807 := by decide
theorem zlt5 : (0 : Nat) < 5 := by decide
theorem read_err_lt (l : List Nat) (k : Nat) : (readAt l k).err < 5 := by
  unfold readAt
  repeat' split
  all_goals first | exact zlt5 | (show (_ : Nat) < 5; decide)
theorem all_drop' {l : List Nat} (h : AllB l) (n : Nat) : AllB (l.drop n) := fun x hx => h x (List.mem_of_mem_drop hx)
theorem nil_all : AllB [] := fun x hx => by cases hx
theorem RS.numV_lt {r : RS} (h : r.Ok) : r.numV < 18446744073709551616 := by
  unfold RS.numV; split; exact read_v_lt h.1 0; decide
theorem RS.byteV_lt {r : RS} (h : r.Ok) : r.byteV < 256 := by
  unfold RS.byteV; split
  · cases hl : r.l with
    | nil => decide
    | cons x t => exact h.1 x (by rw [hl]; exact List.mem_cons_self)
  · decide
theorem RS.Ok.fail {r : RS} (h : r.Ok) {e : Nat} (he : e < 9223372036854775807) : (r.fail e).Ok := by
  unfold RS.fail; split
  · exact ⟨nil_all, fun _ => rfl, by simp, he⟩
  · exact h
theorem RS.Ok.num {r : RS} (h : r.Ok) : r.numR.Ok := by
  unfold RS.numR
  split
  · split
    · exact ⟨all_drop' h.1 _, fun e => absurd rfl e, by have := h.2.2.1; rw [List.length_drop]; show _ - _ ≤ _; omega, zlt⟩
    · exact ⟨nil_all, fun _ => rfl, by simp, by have := read_err_lt r.l 0; show (readAt r.l 0).err < _; omega⟩
  · exact h
theorem RS.Ok.upto {r : RS} (h : r.Ok) (most : Nat) : (r.uptoR most).Ok := by
  unfold RS.uptoR; split
  · exact h.num.fail (by decide)
  · exact h.num
theorem RS.Ok.byte {r : RS} (h : r.Ok) : r.byteR.Ok := by
  unfold RS.byteR
  split
  · split
    · exact ⟨nil_all, fun _ => rfl, by simp, by decide⟩
    · exact ⟨all_drop' h.1 _, fun e => absurd rfl e, by have := h.2.2.1; rw [List.length_drop]; show _ - _ ≤ _; omega, zlt⟩
  · exact h
theorem RS.Ok.flag {r : RS} (h : r.Ok) : r.flagR.Ok := by
  unfold RS.flagR; split
  · exact h.byte.fail (by decide)
  · exact h.byte
theorem RS.textB_lt {r : RS} (h : r.Ok) (most : Nat) : r.textB most < 9223372036854775807 := by
  unfold RS.textB; split
  · exact h.num.2.2.2
  · split
    · decide
    · split <;> decide
theorem RS.Ok.text {r : RS} (h : r.Ok) (most : Nat) : (r.textR most).Ok := by
  unfold RS.textR
  split
  · exact ⟨all_drop' h.num.1 _, fun e => absurd rfl e, by have := h.num.2.2.1; rw [List.length_drop]; show _ - _ ≤ _; omega, zlt⟩
  · exact ⟨nil_all, fun _ => rfl, by simp, RS.textB_lt h most⟩
theorem RS.Ok.end_ {r : RS} (h : r.Ok) : r.endR.Ok := by
  unfold RS.endR; split
  · exact h.fail (by decide)
  · exact h
theorem RS.new {l : List Nat} (h : AllB l) (hl : l.length ≤ 140737488355328) : RS.Ok ⟨l, 0⟩ := ⟨h, fun e => absurd rfl e, hl, zlt⟩
end Go.Proofs.YtdlghabpnpbebaaDoor.Pack
