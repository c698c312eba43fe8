/- Plain mathematics of layer 22 (disk). No program in sight. -/
import Derived.Test.YtdlghabpnpbebaaDoorMem
namespace Go.Proofs.YtdlghabpnpbebaaDoor.Disk
open Go.Proofs.YtdlghabpnpbebaaDoor.Mem

/-- two files, how much of each is sure, room, fuse, down -/
structure DS where
  b0 : List Nat
  s0 : Nat
  b1 : List Nat
  s1 : Nat
  room : Nat
  fuse : Int
  down : Bool
def DS.used (d : DS) : Nat := d.b0.length + d.b1.length
def DS.Ok (d : DS) : Prop := AllB d.b0 ∧ AllB d.b1 ∧ d.s0 ≤ d.b0.length ∧ d.s1 ≤ d.b1.length ∧ d.used ≤ 1048576 ∧ d.room ≤ 1048576 ∧ -1 ≤ d.fuse ∧ d.fuse ≤ 9223372036854775807
def isF (f : Int) : Bool := decide (f = 0) || decide (f = 1)
def roomN (n : Int) : Nat := (min (max n 0) 1048576).toNat
def newD (n : Int) : DS := ⟨[], 0, [], 0, roomN n, -1, false⟩
def DS.burn (d : DS) : DS := if d.fuse = 0 then { d with down := true } else if d.down = true then d else { d with fuse := max (d.fuse - 1) (-1) }
def DS.b (d : DS) (f : Int) : List Nat := if f = 0 then d.b0 else d.b1
def DS.s (d : DS) (f : Int) : Nat := if f = 0 then d.s0 else d.s1
def DS.put (d : DS) (f : Int) (l : List Nat) (n : Nat) : DS := if f = 0 then { d with b0 := l, s0 := n } else { d with b1 := l, s1 := n }
def DS.appM (d : DS) (f : Int) (l : List Nat) : DS × Nat :=
  if isF f = true then (if d.burn.down = true then (d.burn, 14) else if d.burn.room < d.burn.used + l.length then (d.burn, 8) else (d.burn.put f (d.burn.b f ++ l) (d.burn.s f), 0)) else (d, 1)
def DS.syncM (d : DS) (f : Int) : DS × Nat := if isF f = true then (if d.burn.down = true then (d.burn, 14) else (d.burn.put f (d.burn.b f) (d.burn.b f).length, 0)) else (d, 1)
def DS.cutM (d : DS) (f n : Int) : DS × Nat :=
  if isF f = true ∧ 0 ≤ n ∧ n ≤ (d.b f).length then (if d.burn.down = true then (d.burn, 14) else (d.burn.put f ((d.burn.b f).take n.toNat) n.toNat, 0)) else (d, 1)
def DS.roomM (d : DS) (n : Int) : DS := { d with room := roomN n }
def DS.fuseM (d : DS) (n : Int) : DS := if d.down = true then d else { d with fuse := max n (-1) }
/-- the last byte turned, or not -/
def turnL (t : Bool) (q : List Nat) : List Nat := if t = true then q.set (q.length - 1) (q.getD (q.length - 1) 0 ^^^ 1) else q
def keepN (l : List Nat) (s : Nat) (keep : Int) : Nat := (min (max keep 0) ((l.length : Int) - (s : Int))).toNat
def crashB (l : List Nat) (s : Nat) (keep : Int) (turn : Bool) : List Nat := turnL (turn && decide (0 < keepN l s keep)) (l.take (s + keepN l s keep))
def DS.crashM (d : DS) (keep : Int) (turn : Bool) : DS := ⟨crashB d.b0 d.s0 keep turn, (crashB d.b0 d.s0 keep turn).length, crashB d.b1 d.s1 keep turn, (crashB d.b1 d.s1 keep turn).length, d.room, -1, false⟩
theorem roomN_le (n : Int) : roomN n ≤ 1048576 := by unfold roomN; omega
theorem roomN_val (n : Int) : min (max n 0) 1048576 = (roomN n : Int) := by unfold roomN; omega
theorem newD_ok (n : Int) : (newD n).Ok := ⟨(fun x hx => by cases hx), (fun x hx => by cases hx), Nat.le_refl _, Nat.le_refl _, by simp [newD, DS.used], roomN_le n, by simp [newD], by simp [newD]⟩
theorem burn_ok {d : DS} (h : d.Ok) : d.burn.Ok := by
  obtain ⟨h1, h2, h3, h4, h5, h6, h7, h8⟩ := h
  unfold DS.burn
  split
  · exact ⟨h1, h2, h3, h4, h5, h6, h7, h8⟩
  · split
    · exact ⟨h1, h2, h3, h4, h5, h6, h7, h8⟩
    · exact ⟨h1, h2, h3, h4, h5, h6, by show -1 ≤ max (d.fuse - 1) (-1); omega, by show max (d.fuse - 1) (-1) ≤ _; omega⟩
theorem burn_b (d : DS) : d.burn.b0 = d.b0 ∧ d.burn.b1 = d.b1 ∧ d.burn.s0 = d.s0 ∧ d.burn.s1 = d.s1 ∧ d.burn.room = d.room := by
  unfold DS.burn
  split
  · exact ⟨rfl, rfl, rfl, rfl, rfl⟩
  · split <;> exact ⟨rfl, rfl, rfl, rfl, rfl⟩
theorem burn_used (d : DS) : d.burn.used = d.used := by unfold DS.used; rw [(burn_b d).1, (burn_b d).2.1]
theorem app_all {a b : List Nat} (ha : AllB a) (hb : AllB b) : AllB (a ++ b) := fun x hx => (List.mem_append.1 hx).elim (ha x) (hb x)
theorem take_all {a : List Nat} (ha : AllB a) (n : Nat) : AllB (a.take n) := fun x hx => ha x (List.mem_of_mem_take hx)
theorem put_ok {d : DS} (h : d.Ok) {f : Int} {l : List Nat} {n : Nat} (hl : AllB l) (hn : n ≤ l.length) (hu : (d.put f l n).used ≤ 1048576) : (d.put f l n).Ok := by
  obtain ⟨h1, h2, h3, h4, h5, h6, h7, h8⟩ := h
  unfold DS.put at *
  split at hu
  · rename_i hf; rw [if_pos hf]; exact ⟨hl, h2, hn, h4, hu, h6, h7, h8⟩
  · rename_i hf; rw [if_neg hf]; exact ⟨h1, hl, h3, hn, hu, h6, h7, h8⟩
theorem turnL_length (t : Bool) (q : List Nat) : (turnL t q).length = q.length := by unfold turnL; split <;> simp
theorem turnL_all {q : List Nat} (h : AllB q) (t : Bool) : AllB (turnL t q) := by
  unfold turnL
  split
  · intro x hx
    rcases List.mem_or_eq_of_mem_set hx with h1 | h1
    · exact h x h1
    · rw [h1]
      refine Nat.xor_lt_two_pow (n := 8) ?_ (by decide)
      rcases q with _ | ⟨y, s⟩
      · simp
      · exact h _ (by simp [List.getD])
  · exact h
theorem keepN_le (l : List Nat) {s : Nat} (hs : s ≤ l.length) (keep : Int) : s + keepN l s keep ≤ l.length := by unfold keepN; omega
theorem crashB_length (l : List Nat) {s : Nat} (hs : s ≤ l.length) (keep : Int) (t : Bool) : (crashB l s keep t).length = s + keepN l s keep := by
  unfold crashB
  have := keepN_le l hs keep
  rw [turnL_length, List.length_take]; omega
theorem crash_ok {d : DS} (h : d.Ok) (keep : Int) (t : Bool) : (d.crashM keep t).Ok := by
  obtain ⟨h1, h2, h3, h4, h5, h6, h7, h8⟩ := h
  have k0 := keepN_le d.b0 h3 keep
  have k1 := keepN_le d.b1 h4 keep
  refine ⟨turnL_all (take_all h1 _) _, turnL_all (take_all h2 _) _, Nat.le_refl _, Nat.le_refl _, ?_, h6, by simp [DS.crashM], by simp [DS.crashM]⟩
  unfold DS.used at *
  show (crashB _ _ _ _).length + (crashB _ _ _ _).length ≤ _
  rw [crashB_length _ h3, crashB_length _ h4]
  omega
end Go.Proofs.YtdlghabpnpbebaaDoor.Disk
