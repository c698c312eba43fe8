/- Plain mathematics of layer 24 (journal). No program in sight. -/
import Derived.Test.YtdlghabpnpbebaaDoorWalMath
import Derived.Test.YtdlghabpnpbebaaDoorDiskMath
import Derived.Test.YtdlghabpnpbebaaDoorPackBackMath
namespace Go.Proofs.YtdlghabpnpbebaaDoor.Jrn
open Go.Proofs.YtdlghabpnpbebaaDoor.Mem Go.Proofs.YtdlghabpnpbebaaDoor.Num Go.Proofs.YtdlghabpnpbebaaDoor.Wal Go.Proofs.YtdlghabpnpbebaaDoor.Disk Go.Proofs.YtdlghabpnpbebaaDoor.Pack

/-- all records of some bytes -/
def scanF : Nat → List Nat → List (List Nat)
  | 0, _ => []
  | n + 1, b => match oneM b with
    | none => []
    | some r => r :: scanF n (b.drop (recB r).length)
def scanM (b : List Nat) : List (List Nat) := scanF b.length b
theorem scanF_scans : ∀ (n : Nat) (b : List Nat), b.length ≤ n → Scans b (scanF n b) (recsB (scanF n b)).length
  | 0, b, h => by
    have : b = [] := List.eq_nil_of_length_eq_zero (by omega)
    subst this
    exact ⟨[], rfl, rfl, one_nil⟩
  | n + 1, b, h => by
    unfold scanF
    cases h1 : oneM b with
    | none => exact ⟨b, rfl, rfl, h1⟩
    | some r =>
      obtain ⟨t, ht⟩ := one_some h1
      have hd : b.drop (recB r).length = t := by rw [← ht, List.drop_left]
      have hl : (recB r).length + t.length = b.length := by rw [← ht, List.length_append]
      have hr := recB_ge r
      obtain ⟨rest, e1, _, e3⟩ := scanF_scans n t (by omega)
      refine ⟨rest, ?_, rfl, ?_⟩
      · simp only [hd]
        show b = recB r ++ recsB (scanF n t) ++ rest
        rw [List.append_assoc, ← e1, ht]
      · exact e3
theorem scanM_scans (b : List Nat) : Scans b (scanM b) (recsB (scanM b)).length := scanF_scans _ b (Nat.le_refl _)
theorem scans_is {b : List Nat} {l : List (List Nat)} {e : Nat} (hl : b.length < 18446744073709551616) (h : Scans b l e) : l = scanM b ∧ e = (recsB (scanM b)).length := scans_unique hl h (scanM_scans b)
def headN (gen : Nat) (snap : List Nat) : List Nat := recB (numB gen ++ snap)
/-- what a file's bytes tell -/
structure Found where
  gen : Nat
  snap : List Nat
  recs : List (List Nat)
  fin : Nat
def zeroF : Found := ⟨0, [], [], 0⟩
def lookH (h : List Nat) (t : List (List Nat)) (fin : Nat) : Found := if RS.numV ⟨h, 0⟩ = 0 then zeroF else ⟨RS.numV ⟨h, 0⟩, h.drop (h.length - (RS.numR ⟨h, 0⟩).l.length), t, fin⟩
def lookL : List (List Nat) → Nat → Found
  | [], _ => zeroF
  | h :: t, fin => lookH h t fin
def look (b : List Nat) : Found := lookL (scanM b) (recsB (scanM b)).length
def emptyM (d : DS) (f : Int) : DS × Nat := if d.b f = [] then (d, 0) else d.cutM f 0
def writeM (d : DS) (f : Int) (l : List Nat) : DS × Nat := if (d.appM f l).2 ≠ 0 then d.appM f l else (d.appM f l).1.syncM f
def clean2 (r : DS × Nat) (f : Int) : DS × Nat := if r.2 ≠ 0 then r else emptyM r.1 (1 - f)
def cleanM (d : DS) (f : Int) (fin : Nat) : DS × Nat := clean2 (if fin < (d.b f).length then d.cutM f fin else (d, 0)) f
structure JS where
  d : DS
  file : Int
  gen : Nat
def pick (d : DS) : Int × Found := if (look d.b0).gen < (look d.b1).gen then (1, look d.b1) else (0, look d.b0)
def open2 (r : DS × Nat) (p : Int × Found) : JS × Nat :=
  if r.2 = 0 ∧ p.2.gen = 0 then (⟨(writeM r.1 0 (headN 1 [])).1, p.1, 1⟩, (writeM r.1 0 (headN 1 [])).2) else (⟨r.1, p.1, p.2.gen⟩, r.2)
def openM (d : DS) : JS × Nat := open2 (cleanM d (pick d).1 (pick d).2.fin) (pick d)
def addM (j : JS) (r : List Nat) : JS × Nat := (⟨(writeM j.d j.file (recB r)).1, j.file, j.gen⟩, (writeM j.d j.file (recB r)).2)
def nextG (g : Nat) : Nat := (g + 1) % 18446744073709551616
def ck2 (r : DS × Nat) (j : JS) (s : List Nat) : DS × Nat := if r.2 = 0 then writeM r.1 (1 - j.file) (headN (nextG j.gen) s) else r
def ck3 (r : DS × Nat) (j : JS) : JS × Nat := if r.2 ≠ 0 then (⟨r.1, j.file, j.gen⟩, r.2) else (⟨(r.1.cutM j.file 0).1, 1 - j.file, nextG j.gen⟩, (r.1.cutM j.file 0).2)
def ckM (j : JS) (s : List Nat) : JS × Nat := ck3 (ck2 (emptyM j.d (1 - j.file)) j s) j
/-! bounds -/
theorem nextG_lt (g : Nat) : nextG g < 18446744073709551616 := Nat.mod_lt _ (by decide)
theorem isF_01 {f : Int} (h : f = 0 ∨ f = 1) : isF f = true := by rcases h with rfl | rfl <;> rfl
theorem b_len {d : DS} (h : d.Ok) (f : Int) : (d.b f).length ≤ 1048576 := by
  have h1 := h.2.2.2.2.1
  unfold DS.used at h1
  unfold DS.b
  split <;> omega
theorem b_all {d : DS} (h : d.Ok) (f : Int) : AllB (d.b f) := by
  unfold DS.b
  split
  · exact h.1
  · exact h.2.1
end Go.Proofs.YtdlghabpnpbebaaDoor.Jrn
