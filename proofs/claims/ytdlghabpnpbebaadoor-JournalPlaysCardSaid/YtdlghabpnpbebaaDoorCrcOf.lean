/- The walks of layer 2, continued: the sum of parts. -/
import Derived.Test.YtdlghabpnpbebaaDoorCrcWalks
namespace Go.Proofs.YtdlghabpnpbebaaDoor.Crc
open Go.RowKit Go.Proofs.YtdlghabpnpbebaaDoor.Mem

/-- a row of a slice of byte slices: where it lies, its bytes, its capacity -/
structure Part where
  A : Option Addr
  l : List Nat
  c : Nat
def Part.val (p : Part) : Value := .slice p.A p.l.length p.c
def cat (ps : List Part) : List Nat := (ps.map Part.l).flatten
/-- a slice of byte slices reads these parts -/
def RdParts (w : World) (B : Nat) (X : Option Addr) (ps : List Part) : Prop :=
  Rd w B X (ps.map Part.val) ∧ ∀ p ∈ ps, Rd w B p.A (BB p.l) ∧ AllB p.l ∧ p.l.length ≤ 9223372036854775807
theorem RdParts.below {w w' : World} {B : Nat} {X : Option Addr} {ps : List Part} (h : RdParts w B X ps) (hb : Below B w w') : RdParts w' B X ps :=
  ⟨h.1.below hb, fun p hp => ⟨(h.2 p hp).1.below hb, (h.2 p hp).2⟩⟩
theorem RdParts.more {w : World} {B B' : Nat} {X : Option Addr} {ps : List Part} (h : RdParts w B X ps) (hB : B ≤ B') : RdParts w B' X ps :=
  ⟨h.1.more hB, fun p hp => ⟨(h.2 p hp).1.more hB, (h.2 p hp).2⟩⟩
theorem cat_snoc (ps : List Part) (j : Nat) (p : Part) (h : ps[j]? = some p) : cat (ps.take (j + 1)) = cat (ps.take j) ++ p.l := by
  obtain ⟨hj, rfl⟩ := List.getElem?_eq_some_iff.1 h
  unfold cat
  rw [List.take_succ_eq_append_getElem hj, List.map_append, List.flatten_append]
  simp
theorem cat_all {ps : List Part} (h : ∀ p ∈ ps, AllB p.l) : AllB (cat ps) := by
  intro x hx
  unfold cat at hx
  obtain ⟨l, hl, hxl⟩ := List.mem_flatten.1 hx
  obtain ⟨p, hp, rfl⟩ := List.mem_map.1 hl
  exact h p hp x hxl
theorem of_any (X : Option Addr) (n cap : Nat) (ps : List Part) (w : World) (hn : n = ps.length) (hT : Tab w) (hr : RdParts w w.heap.size X ps) (hsz : ps.length ≤ 9223372036854775807) :
    Calls Tryd.prog 8 #[.slice X n cap] w fun e w' => e = .returned (.int .u32 (more 0 (cat ps) : Int)) ∧ w = w' := by
  subst hn
  have HT := Lib.hid hT
  clear hT
  go_enter Tryd.func8, Tryd.ntmps8
  go_wp2
  go_loop [3, 8] (fun v i => ∃ j : Nat, j ≤ ps.length ∧ i = .int .i64 j ∧ v = .int .u32 (more 0 (cat (ps.take j)) : Nat)) (fun _ i => ps.length - (intOf i).toNat)
  case atStart => exact ⟨0, by omega, rfl, val_int (by rw [List.take_zero, show more 0 (cat []) = 0 from more_nil 0]; rfl)⟩
  case round =>
    obtain ⟨j, hj, rfl, rfl⟩ := hrel
    have hlt : more 0 (cat (ps.take j)) < 4294967296 := more_lt (cat_all fun p hp => (hr.2 p (List.mem_of_mem_take hp)).2.1) (by decide)
    by_cases h0 : j < ps.length
    · have hp : ps[j]? = some ps[j] := List.getElem?_eq_getElem h0
      obtain ⟨b, o, rfl, hb, hcell⟩ := hr.1.at_ (k := j) (u := (ps[j]).val) (by rw [List.getElem?_map, hp]; rfl)
      obtain ⟨hr1, hr2, hr3⟩ := hr.2 ps[j] (List.getElem_mem h0)
      have hcs := cat_snoc ps j _ hp
      have hm : more 0 (cat (ps.take (j + 1))) = more (more 0 (cat (ps.take j))) ps[j].l := by rw [hcs, more_append]
      generalize ps[j] = p at *
      generalize more 0 (cat (ps.take j)) = s at *
      have HM := Lib.hid hm
      have HR := Lib.hid hr
      clear hm hcs hp hr
      unfold Part.val at hcell
      go_wp2_with (go_at_call 9; refine (more_any _ _ _ _ p.l _ rfl hlt hr2 HT.out hr1 hr3).mono ?_; rintro e w' ⟨rfl, rfl⟩)
      go_round
      case rel => exact ⟨j + 1, by omega, by go_num, val_int (by rw [HM.out])⟩
      case measure => simp [intOf]; omega
    · have ej : ps.take j = ps := List.take_of_length_le (by omega)
      rw [ej]
      clear ej
      go_wp2
      go_ret
      exact ⟨rfl, rfl⟩
/-! parts that are laid in a new block -/
theorem parts_new (w : World) (ps : List Part) (h : ∀ p ∈ ps, Rd w w.heap.size p.A (BB p.l) ∧ AllB p.l ∧ p.l.length ≤ 140737488355328) :
    RdParts (w.alloc (.cells (ps.map Part.val).toArray 22)) (w.heap.size + 1) (some ⟨w.heap.size, 0, none⟩) ps :=
  ⟨Rd.new w _ _, fun p hp => ⟨((h p hp).1.alloc (Nat.le_refl _) _).more (by omega), (h p hp).2.1, by have := (h p hp).2.2; omega⟩⟩
/-- what may be handed on as a part -/
def Ok (w : World) (A : Option Addr) (l : List Nat) : Prop := Rd w w.heap.size A (BB l) ∧ AllB l ∧ l.length ≤ 140737488355328
theorem Ok.next {w w' : World} {A : Option Addr} {l : List Nat} (h : Ok w A l) (hb : Below w.heap.size w w') : Ok w' A l := ⟨(h.1.below hb).more hb.size, h.2⟩
theorem Ok.alloc {w : World} {A : Option Addr} {l : List Nat} (h : Ok w A l) (o : Obj) : Ok (w.alloc o) A l := h.next ((Below.refl _ _).alloc (Nat.le_refl _) o)
theorem Ok.nil (w : World) : Ok w none [] := ⟨Rd.nil, fun x hx => (by cases hx), by simp⟩
theorem of1' (w : World) (A : Option Addr) (l : List Nat) (c : Nat) (hT : Tab w) (h : Ok w A l) :
    Calls Tryd.prog 8 #[.slice (some ⟨w.heap.size, 0, none⟩) 1 1] (w.alloc (.cells #[.slice A l.length c] 22)) fun e w' => e = .returned (.int .u32 (more 0 l : Int)) ∧ w.alloc (.cells #[.slice A l.length c] 22) = w' := by
  have hp := parts_new w [⟨A, l, c⟩] (by intro p hp; rcases List.mem_singleton.1 hp with rfl; exact h)
  have := of_any _ 1 1 [⟨A, l, c⟩] _ rfl (hT.alloc _) (hp.more (by simp)) (by simp)
  simpa [cat, Part.val] using this
theorem of1 (w : World) (A : Option Addr) (l : List Nat) (c : Nat) (hT : Tab w) (h : Ok w A l) :
    Calls Tryd.prog 8 #[.slice (some ⟨w.heap.size, 0, none⟩) 1 1] (w.alloc (.cells #[.slice A l.length c] 22)) fun e w' => e = .returned (.int .u32 (more 0 l : Int)) ∧ Below w.heap.size w w' :=
  (of1' w A l c hT h).mono fun _ _ ⟨he, hw⟩ => ⟨he, by rw [← hw]; exact (Below.refl _ _).alloc (Nat.le_refl _) _⟩
theorem of2' (w : World) (A B : Option Addr) (l m : List Nat) (c d : Nat) (hT : Tab w) (h : Ok w A l) (h2 : Ok w B m) :
    Calls Tryd.prog 8 #[.slice (some ⟨w.heap.size, 0, none⟩) 2 2] (w.alloc (.cells #[.slice A l.length c, .slice B m.length d] 22)) fun e w' => e = .returned (.int .u32 (more 0 (l ++ m) : Int)) ∧ w.alloc (.cells #[.slice A l.length c, .slice B m.length d] 22) = w' := by
  have hp := parts_new w [⟨A, l, c⟩, ⟨B, m, d⟩] (by intro p hp; rcases List.mem_cons.1 hp with rfl | hp; exact h; rcases List.mem_singleton.1 hp with rfl; exact h2)
  have := of_any _ 2 2 [⟨A, l, c⟩, ⟨B, m, d⟩] _ rfl (hT.alloc _) (hp.more (by simp)) (by simp)
  simpa [cat, Part.val] using this
theorem of2 (w : World) (A B : Option Addr) (l m : List Nat) (c d : Nat) (hT : Tab w) (h : Ok w A l) (h2 : Ok w B m) :
    Calls Tryd.prog 8 #[.slice (some ⟨w.heap.size, 0, none⟩) 2 2] (w.alloc (.cells #[.slice A l.length c, .slice B m.length d] 22)) fun e w' => e = .returned (.int .u32 (more 0 (l ++ m) : Int)) ∧ Below w.heap.size w w' :=
  (of2' w A B l m c d hT h h2).mono fun _ _ ⟨he, hw⟩ => ⟨he, by rw [← hw]; exact (Below.refl _ _).alloc (Nat.le_refl _) _⟩
theorem of3' (w : World) (A B C : Option Addr) (l m k : List Nat) (c d e : Nat) (hT : Tab w) (h : Ok w A l) (h2 : Ok w B m) (h3 : Ok w C k) :
    Calls Tryd.prog 8 #[.slice (some ⟨w.heap.size, 0, none⟩) 3 3] (w.alloc (.cells #[.slice A l.length c, .slice B m.length d, .slice C k.length e] 22)) fun en w' => en = .returned (.int .u32 (more 0 (l ++ m ++ k) : Int)) ∧ w.alloc (.cells #[.slice A l.length c, .slice B m.length d, .slice C k.length e] 22) = w' := by
  have hp := parts_new w [⟨A, l, c⟩, ⟨B, m, d⟩, ⟨C, k, e⟩] (by intro p hp; rcases List.mem_cons.1 hp with rfl | hp; exact h; rcases List.mem_cons.1 hp with rfl | hp; exact h2; rcases List.mem_singleton.1 hp with rfl; exact h3)
  have := of_any _ 3 3 [⟨A, l, c⟩, ⟨B, m, d⟩, ⟨C, k, e⟩] _ rfl (hT.alloc _) (hp.more (by simp)) (by simp)
  simpa [cat, Part.val] using this
theorem of3 (w : World) (A B C : Option Addr) (l m k : List Nat) (c d e : Nat) (hT : Tab w) (h : Ok w A l) (h2 : Ok w B m) (h3 : Ok w C k) :
    Calls Tryd.prog 8 #[.slice (some ⟨w.heap.size, 0, none⟩) 3 3] (w.alloc (.cells #[.slice A l.length c, .slice B m.length d, .slice C k.length e] 22)) fun en w' => en = .returned (.int .u32 (more 0 (l ++ m ++ k) : Int)) ∧ Below w.heap.size w w' :=
  (of3' w A B C l m k c d e hT h h2 h3).mono fun _ _ ⟨he, hw⟩ => ⟨he, by rw [← hw]; exact (Below.refl _ _).alloc (Nat.le_refl _) _⟩
theorem of0 (w : World) (hT : Tab w) : Calls Tryd.prog 8 #[.slice none 0 0] w fun e w' => e = .returned (.int .u32 0) ∧ w = w' := by
  have := of_any none 0 0 [] w rfl hT ⟨Rd.nil, fun p hp => (by cases hp)⟩ (by simp)
  have e : more 0 (cat []) = 0 := more_nil 0
  rw [e] at this
  exact this
end Go.Proofs.YtdlghabpnpbebaaDoor.Crc
