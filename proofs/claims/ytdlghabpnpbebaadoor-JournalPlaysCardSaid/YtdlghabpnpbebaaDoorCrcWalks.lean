/- The walks of layer 2: what each function of package crc, and of its reference, computes. -/
import Derived.Test.YtdlghabpnpbebaaDoorBytes
import Derived.Test.YtdlghabpnpbebaaDoorCrcMath
import Derived.Laws.BitsAllLaws
namespace Go.Proofs.YtdlghabpnpbebaaDoor.Crc
open Go.RowKit Go.Proofs.YtdlghabpnpbebaaDoor.Mem

/-- the table, as it is laid -/
def Tab (w : World) : Prop := 0 < w.heap.size ∧ ∀ i, i < 16 → w.cell? ⟨0, i, none⟩ = some (.int .u32 (tab i : Int))
theorem Tab.below {w w' : World} (h : Tab w) {B : Nat} (hb : Below B w w') (hB : 0 < B) : Tab w' :=
  ⟨Nat.lt_of_lt_of_le h.1 hb.size, fun i hi => by rw [hb.cell (p := ⟨0, i, none⟩) hB]; exact h.2 i hi⟩
theorem Tab.next {w w' : World} (h : Tab w) (hb : Below w.heap.size w w') : Tab w' := h.below hb h.1
theorem Tab.alloc {w : World} (h : Tab w) (o : Obj) : Tab (w.alloc o) := h.next ((Below.refl _ _).alloc (Nat.le_refl _) o)
theorem ret_int {k : IntKind} {a b : Int} (h : a = b) : Ending.returned (.int k a) = .returned (.int k b) := by rw [h]
theorem val_int {k : IntKind} {a b : Int} (h : a = b) : Value.int k a = Value.int k b := by rw [h]
theorem xor32 (a b : Nat) (ha : a < 4294967296) (hb : b < 4294967296) : bits .xor .u32 (a : Int) (b : Int) = ((a ^^^ b : Nat) : Int) := u32_xor_nat a b ha hb
theorem and15 (a : Nat) (ha : a < 4294967296) : bits .and .u32 (a : Int) 15 = ((a % 16 : Nat) : Int) := by
  have h := u32_and_nat a 15 ha (by decide)
  rw [nat_mask4] at h
  exact h
theorem not32 (a : Nat) (ha : a < 4294967296) : bits .xor .u32 IntKind.u32.max (a : Int) = ((a ^^^ full : Nat) : Int) := by
  have h := u32_xor_nat 4294967295 a (by decide) ha
  rw [Nat.xor_comm] at h
  exact h
theorem xorfull (a : Nat) (ha : a < 4294967296) : bits .xor .u32 (a : Int) 4294967295 = ((a ^^^ full : Nat) : Int) := u32_xor_nat a 4294967295 ha (by decide)
theorem take_snoc (m : List Nat) (j : Nat) (h : j < m.length) : m.take (j + 1) = m.take j ++ [m.getD j 0] := by
  rw [List.take_succ_eq_append_getElem h]; simp [List.getD, h]
theorem run_take (c : Nat) (m : List Nat) (j : Nat) (h : j < m.length) : run c (m.take (j + 1)) = stepB (run c (m.take j)) (m.getD j 0) := by
  rw [take_snoc m j h, run_append]; rfl
theorem get_byte {m : List Nat} (hm : AllB m) {j : Nat} (h : j < m.length) : m.getD j 0 < 256 := hm _ (by simp [List.getD, h])
theorem all_take {m : List Nat} (hm : AllB m) (j : Nat) : AllB (m.take j) := fun z hz => hm z (List.mem_of_mem_take hz)
/-- one byte by the table: its facts for the walk -/
theorem byte_facts (w : World) (hT : Tab w) (c x : Nat) (hc : c < 4294967296) (hx : x < 256) :
    ∃ d i1 t1 c1 d2 i2 t2 : Nat, bits .xor .u32 (c : Int) (x : Int) = (d : Int) ∧ bits .and .u32 (d : Int) 15 = (i1 : Int) ∧ i1 < 16 ∧ w.cell? ⟨0, i1, none⟩ = some (.int .u32 (t1 : Int)) ∧ bits .xor .u32 (t1 : Int) ((c : Int) / 16) = (c1 : Int) ∧
      bits .xor .u32 (c1 : Int) ((x : Int) / 16) = (d2 : Int) ∧ bits .and .u32 (d2 : Int) 15 = (i2 : Int) ∧ i2 < 16 ∧ w.cell? ⟨0, i2, none⟩ = some (.int .u32 (t2 : Int)) ∧ bits .xor .u32 (t2 : Int) ((c1 : Int) / 16) = (stepB c x : Int) := by
  have hd : c ^^^ x < 4294967296 := xor_lt hc (by omega)
  have l1 : tab ((c ^^^ x) % 16) < 4294967296 := tab_lt _ (by omega)
  have hc1 : tab ((c ^^^ x) % 16) ^^^ c / 16 < 4294967296 := xor_lt l1 (by omega)
  have hd2 : (tab ((c ^^^ x) % 16) ^^^ c / 16) ^^^ x / 16 < 4294967296 := xor_lt hc1 (by omega)
  have l2 : tab (((tab ((c ^^^ x) % 16) ^^^ c / 16) ^^^ x / 16) % 16) < 4294967296 := tab_lt _ (by omega)
  refine ⟨c ^^^ x, (c ^^^ x) % 16, tab ((c ^^^ x) % 16), tab ((c ^^^ x) % 16) ^^^ c / 16, (tab ((c ^^^ x) % 16) ^^^ c / 16) ^^^ x / 16, ((tab ((c ^^^ x) % 16) ^^^ c / 16) ^^^ x / 16) % 16, tab (((tab ((c ^^^ x) % 16) ^^^ c / 16) ^^^ x / 16) % 16),
    xor32 _ _ hc (by omega), and15 _ hd, by omega, hT.2 _ (by omega), ?_, ?_, and15 _ hd2, by omega, hT.2 _ (by omega), ?_⟩
  · rw [show (c : Int) / 16 = ((c / 16 : Nat) : Int) from by omega, xor32 _ _ l1 (by omega)]
  · rw [show (x : Int) / 16 = ((x / 16 : Nat) : Int) from by omega, xor32 _ _ hc1 (by omega)]
  · rw [stepB_tab c x hx]
    generalize tab ((c ^^^ x) % 16) ^^^ c / 16 = c1 at *
    rw [show (c1 : Int) / 16 = ((c1 / 16 : Nat) : Int) from by omega, xor32 _ _ l2 (by omega)]
theorem more_any (c : Nat) (A : Option Addr) (n cap : Nat) (l : List Nat) (w : World) (hn : n = l.length) (hc : c < 4294967296) (hl : AllB l) (hT : Tab w) (hr : Rd w w.heap.size A (BB l)) (hsz : l.length ≤ 9223372036854775807) :
    Calls Tryd.prog 9 #[.int .u32 c, .slice A n cap] w fun e w' => e = .returned (.int .u32 (more c l : Int)) ∧ w = w' := by
  subst hn
  have hnot := not32 c hc
  have hcf : c ^^^ full < 4294967296 := xor_lt hc full_lt
  have HM := Lib.hid (show more c l = run (c ^^^ full) l ^^^ full from rfl)
  generalize c ^^^ full = c0 at *
  go_enter Tryd.func9, Tryd.ntmps9
  have hs : IntKind.u32.signed = false := rfl
  go_wp2
  clear hnot
  go_loop [5, 12] (fun v i => ∃ j : Nat, j ≤ l.length ∧ i = .int .i64 j ∧ v = .int .u32 (run c0 (l.take j) : Nat)) (fun _ i => l.length - (intOf i).toNat)
  case atStart => exact ⟨0, by omega, rfl, rfl⟩
  case round =>
    obtain ⟨j, hj, rfl, rfl⟩ := hrel
    have hlt := run_lt (all_take hl j) hcf
    by_cases h0 : j < l.length
    · obtain ⟨b, o, rfl, hb, hcell⟩ := hr.at_ (BB_get l j h0)
      have hx := get_byte hl h0
      have hst := run_take c0 l j h0
      generalize run c0 (l.take j) = r at *
      generalize l.getD j 0 = x at *
      obtain ⟨d, i1, t1, c1, d2, i2, t2, e1, e2, e3, e4, e5, e6, e7, e8, e9, e10⟩ := byte_facts w hT r x hlt hx
      have HS := Lib.hid hst
      have HH := Lib.hid hT
      clear hst hT
      go_wp2
      go_round
      case rel => exact ⟨j + 1, by omega, by go_num, val_int (by rw [HS.out])⟩
      case measure => simp [intOf]; omega
    · have ej : l.take j = l := List.take_of_length_le (by omega)
      rw [ej] at hlt ⊢
      have hn2 := not32 _ hlt
      rw [← HM.out] at hn2
      clear ej
      go_wp2
      go_ret
      exact ⟨rfl, rfl⟩
theorem step_any (c x : Nat) (w : World) (hc : c < 4294967296) (hx : x < 256) :
    Calls Tryd.prog 81 #[.int .u32 c, .int .u8 x] w fun e w' => e = .returned (.int .u32 (stepB c x : Int)) ∧ w = w' := by
  have hd := xor32 c x hc (by omega)
  have hdl : c ^^^ x < 4294967296 := xor_lt hc (by omega)
  have HM := Lib.hid (show stepB c x = Sn 8 (c ^^^ x) from rfl)
  generalize c ^^^ x = d at *
  go_enter Tryd.func81, Tryd.ntmps81
  go_wp2
  clear hd
  go_loop [0, 5] (fun v i => ∃ j r : Nat, j ≤ 8 ∧ i = .int .i64 j ∧ r < 4294967296 ∧ v = .int .u32 (r : Nat) ∧ Hid (Sn (8 - j) r = Sn 8 d)) (fun _ i => 8 - (intOf i).toNat)
  case atStart => exact ⟨0, d, by omega, rfl, hdl, rfl, rfl⟩
  case round =>
    obtain ⟨j, r, hj, rfl, hr, rfl, hs⟩ := hrel
    by_cases h0 : j < 8
    · have hn : Sn (8 - (j + 1)) (S r) = Sn 8 d := by rw [← hs.out, show 8 - j = (8 - (j + 1)) + 1 from by omega]; rfl
      have HN := Lib.hid hn
      have hSl := S_lt hr
      clear hn hs
      by_cases h2 : r % 2 = 1
      · have hb : ((r : Int) % 2 == 1) = true := by simp; omega
        have hx2 := xor32 (r / 2) poly (by omega) (by decide)
        have hS : S r = r / 2 ^^^ poly := by unfold S; rw [if_pos h2]
        rw [← hS, show ((r / 2 : Nat) : Int) = (r : Int) / 2 from by omega, show ((poly : Nat) : Int) = 3988292384 from rfl] at hx2
        generalize S r = s at *
        clear hS
        go_wp2
        go_round
        case rel => exact ⟨j + 1, s, by omega, by go_num, hSl, rfl, HN⟩
        case measure => simp [intOf]; omega
      · have hb : ((r : Int) % 2 == 1) = false := by simp; omega
        have hS : S r = r / 2 := by unfold S; rw [if_neg h2]
        go_wp2
        go_round
        case rel => exact ⟨j + 1, r / 2, by omega, by go_num, by omega, val_int (by omega), by rw [← hS]; exact HN⟩
        case measure => simp [intOf]; omega
    · obtain rfl : j = 8 := by omega
      go_wp2
      go_ret
      exact ⟨ret_int (by rw [HM.out, ← hs.out]; rfl), rfl⟩
theorem rmore_any (c : Nat) (A : Option Addr) (n cap : Nat) (l : List Nat) (w : World) (hn : n = l.length) (hc : c < 4294967296) (hl : AllB l) (hr : Rd w w.heap.size A (BB l)) (hsz : l.length ≤ 9223372036854775807) :
    Calls Tryd.prog 69 #[.int .u32 c, .slice A n cap] w fun e w' => e = .returned (.int .u32 (more c l : Int)) ∧ w = w' := by
  subst hn
  have hnot := xorfull c hc
  have hcf : c ^^^ full < 4294967296 := xor_lt hc full_lt
  have HM := Lib.hid (show more c l = run (c ^^^ full) l ^^^ full from rfl)
  generalize c ^^^ full = c0 at *
  go_enter Tryd.func69, Tryd.ntmps69
  go_wp2
  clear hnot
  go_loop [5, 6] (fun v i => ∃ j : Nat, j ≤ l.length ∧ i = .int .i64 j ∧ v = .int .u32 (run c0 (l.take j) : Nat)) (fun _ i => l.length - (intOf i).toNat)
  case atStart => exact ⟨0, by omega, rfl, rfl⟩
  case round =>
    obtain ⟨j, hj, rfl, rfl⟩ := hrel
    have hlt := run_lt (all_take hl j) hcf
    by_cases h0 : j < l.length
    · obtain ⟨b, o, rfl, hb, hcell⟩ := hr.at_ (BB_get l j h0)
      have hx := get_byte hl h0
      have hst := run_take c0 l j h0
      generalize run c0 (l.take j) = r at *
      generalize l.getD j 0 = x at *
      have HS := Lib.hid hst
      clear hst
      go_wp2_with (go_at_call 81; refine (step_any _ _ _ hlt hx).mono ?_; rintro e w' ⟨rfl, rfl⟩)
      go_round
      case rel => exact ⟨j + 1, by omega, by go_num, val_int (by rw [HS.out])⟩
      case measure => simp [intOf]; omega
    · have ej : l.take j = l := List.take_of_length_le (by omega)
      rw [ej] at hlt ⊢
      have hn2 := xorfull _ hlt
      rw [← HM.out] at hn2
      clear ej
      go_wp2
      go_ret
      exact ⟨rfl, rfl⟩
end Go.Proofs.YtdlghabpnpbebaaDoor.Crc
