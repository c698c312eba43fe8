/- The laws of layer 2, as walks. -/
import Derived.Test.YtfbchegfkilhpaaDoorCrcOf
import Derived.Test.YtfbchegfkilhpaaDoorTurned
import Derived.OpenShut
import Derived.Lib.SlBytesConst
namespace Go.Proofs.YtfbchegfkilhpaaDoor.Crc
open Go.RowKit Go.Proofs.YtfbchegfkilhpaaDoor.Mem

theorem wf_u32 {a : Int} (h : (Lit.int .u32 a).wf = true) : ∃ v : Nat, a = (v : Int) ∧ v < 4294967296 := by
  have := bounds_u32 h
  exact ⟨a.toNat, by omega, by omega⟩
theorem wf_u16 {a : Int} (h : (Lit.int .u16 a).wf = true) : ∃ v : Nat, a = (v : Int) ∧ v < 65536 := by
  have := bounds_u16 h
  exact ⟨a.toNat, by omega, by omega⟩
theorem all_lit {l : List Nat} (h : l.all (fun x => decide (x < 256)) = true) : AllB l := fun x hx => by simpa using List.all_eq_true.1 h x hx
theorem below_next {w w1 w2 : World} (h : Below w.heap.size w w1) (h2 : Below w1.heap.size w1 w2) : Below w.heap.size w w2 := h.trans (h2.mono h.size)
theorem below_new {w w1 : World} (h : Below w.heap.size w w1) (o : Obj) : Below w.heap.size w (w1.alloc o) := h.alloc h.size o
theorem sum9 : more 0 [49, 50, 51, 52, 53, 54, 55, 56, 57] = 3421780262 := by decide +kernel
def dig9 : List Value := [.int .u8 49, .int .u8 50, .int .u8 51, .int .u8 52, .int .u8 53, .int .u8 54, .int .u8 55, .int .u8 56, .int .u8 57]
theorem works_any (w : World) (hT : Tab w) : Calls Tryd.prog 15 #[] w fun e w' => e = .returned (.bool true) ∧ Below w.heap.size w w' := by
  have kc := fun (w : World) (C : Array Value) (n c : Nat) => Lib.run_convert_bytes_const (P := Tryd.prog) w 24 5 C n c Tryd.underlying24 Tryd.underlying5
  have h9 : Ok (w.alloc (.cells dig9.toArray 5 (9, 10))) (some ⟨w.heap.size, 0, none⟩) [49, 50, 51, 52, 53, 54, 55, 56, 57] :=
    ⟨(Rd.marked w dig9 5 (9, 10)).more (by simp), all_lit (by decide), by simp⟩
  have hT1 := hT.alloc (.cells dig9.toArray 5 (9, 10))
  have hb1 := (Below.refl w.heap.size w).alloc (Nat.le_refl _) (.cells dig9.toArray 5 (9, 10))
  have e9 : Obj.cells dig9.toArray 5 (9, 10) = .cells #[.int .u8 49, .int .u8 50, .int .u8 51, .int .u8 52, .int .u8 53, .int .u8 54, .int .u8 55, .int .u8 56, .int .u8 57] 5 (9, 10) := rfl
  rw [e9] at h9 hT1 hb1
  clear e9
  go_enter Tryd.func15, Tryd.ntmps15
  go_wp2_with fail
  have hws : (w.alloc (.cells #[.int .u8 49, .int .u8 50, .int .u8 51, .int .u8 52, .int .u8 53, .int .u8 54, .int .u8 55, .int .u8 56, .int .u8 57] 5 (9, 10))).heap.size = w.heap.size + 1 := by simp
  generalize hW : w.alloc (.cells #[.int .u8 49, .int .u8 50, .int .u8 51, .int .u8 52, .int .u8 53, .int .u8 54, .int .u8 55, .int .u8 56, .int .u8 57] 5 (9, 10)) = W at *
  rw [← hws]
  have c1 := of1 _ _ _ 9 hT1 h9
  rw [sum9] at c1
  refine c1.mono ?_
  rintro e w2 ⟨rfl, hb2⟩
  have hb3 := below_next hb1 hb2
  have hT2 := hT.next hb3
  clear c1 hb2 hb1 hT1 h9 hW hws kc
  go_wp2_with fail
  refine (of0 _ hT2).mono ?_
  rintro e w' ⟨rfl, rfl⟩
  go_wp2_with fail
  go_ret
  exact ⟨rfl, hb3⟩
theorem one_law (A B C : Option Addr) (a b d : List Nat) (ca cb cd : Nat) (w : World) (hT : Tab w) (ha : Ok w A a) (hb : Ok w B b) (hd : Ok w C d) :
    Calls Tryd.prog 6 #[.slice A a.length ca, .slice B b.length cb, .slice C d.length cd] w fun e w' => e = .returned (.bool true) ∧ Below w.heap.size w w' := by
  have hdec : (more 0 a = more 0 b) ↔ (more 0 (a ++ d) = more 0 (b ++ d)) := by
    rw [← more_append, ← more_append]
    exact ⟨fun h => by rw [h], fun h => more_inj hd.2.1 (more_lt ha.2.1 (by decide)) (more_lt hb.2.1 (by decide)) h⟩
  have hcmp : ((more 0 a : Int) == (more 0 b : Int)) = ((more 0 (a ++ d) : Int) == (more 0 (b ++ d) : Int)) := by
    rw [Bool.eq_iff_iff, beq_iff_eq, beq_iff_eq, Int.natCast_inj, Int.natCast_inj]
    exact hdec
  have HT := Lib.hid (fun (W : World) (h : Below w.heap.size w W) => hT.next h)
  have HA := Lib.hid (fun (W : World) (h : Below w.heap.size w W) => ha.next h)
  have HB := Lib.hid (fun (W : World) (h : Below w.heap.size w W) => hb.next h)
  have HD := Lib.hid (fun (W : World) (h : Below w.heap.size w W) => hd.next h)
  clear hdec
  go_enter Tryd.func6, Tryd.ntmps6
  go_wp2_with fail
  refine (of1 _ _ _ _ hT ha).mono ?_
  rintro e w1 ⟨rfl, hb1⟩
  go_wp2_with fail
  refine (of1 _ _ _ _ (HT.out _ hb1) (HB.out _ hb1)).mono ?_
  rintro e w2 ⟨rfl, hb2⟩
  have hb2 := below_next hb1 hb2
  go_wp2_with fail
  refine (of2 _ _ _ _ _ _ _ (HT.out _ hb2) (HA.out _ hb2) (HD.out _ hb2)).mono ?_
  rintro e w3 ⟨rfl, hb3⟩
  have hb3 := below_next hb2 hb3
  go_wp2_with fail
  refine (of2 _ _ _ _ _ _ _ (HT.out _ hb3) (HB.out _ hb3) (HD.out _ hb3)).mono ?_
  rintro e w4 ⟨rfl, hb4⟩
  have hb4 := below_next hb3 hb4
  go_wp2_with fail
  refine (works_any _ (HT.out _ hb4)).mono ?_
  rintro e w6 ⟨rfl, hb6⟩
  go_wp2_with fail
  go_ret
  exact ⟨rfl, below_next hb4 hb6⟩
theorem says_law (X A : Option Addr) (cx ca : Nat) (ps : List Part) (c : Nat) (l : List Nat) (w : World) (hT : Tab w) (hp : RdParts w w.heap.size X ps) (hps : ps.length ≤ 9223372036854775807) (hc : c < 4294967296) (hA : Ok w A l) :
    Calls Tryd.prog 3 #[.slice X ps.length cx, .int .u32 (c : Int), .slice A l.length ca] w fun e w' => e = .returned (.bool true) ∧ Below w.heap.size w w' := by
  go_enter Tryd.func3, Tryd.ntmps3
  go_wp2_with fail
  refine (of_any X _ cx ps _ rfl hT hp hps).mono ?_
  rintro e w' ⟨rfl, rfl⟩
  go_wp2_with fail
  refine (rof_any X _ cx ps _ rfl hp hps).mono ?_
  rintro e w' ⟨rfl, rfl⟩
  go_wp2_with fail
  refine (more_any c A _ ca l _ rfl hc hA.2.1 hT hA.1 (by have := hA.2.2; omega)).mono ?_
  rintro e w' ⟨rfl, rfl⟩
  go_wp2_with fail
  refine (rmore_any c A _ ca l _ rfl hc hA.2.1 hA.1 (by have := hA.2.2; omega)).mono ?_
  rintro e w' ⟨rfl, rfl⟩
  go_wp2_with fail
  refine (works_any _ hT).mono ?_
  rintro e w6 ⟨rfl, hb6⟩
  go_wp2_with fail
  go_ret
  exact ⟨rfl, hb6⟩
theorem bursts_law (A : Option Addr) (ca : Nat) (l : List Nat) (at_ m : Nat) (w : World) (hT : Tab w) (hA : Ok w A l) (hat : at_ < 65536) (hm : m < 4294967296) :
    Calls Tryd.prog 5 #[.slice A l.length ca, .int .u16 (at_ : Int), .int .u32 (m : Int)] w fun e w' => e = .returned (.bool true) ∧ Below w.heap.size w w' := by
  have hsz := hA.2.2
  by_cases h0 : l.length = 0
  · obtain rfl : l = [] := List.eq_nil_of_length_eq_zero h0
    clear h0 hsz
    go_enter Tryd.func5, Tryd.ntmps5
    go_wp2_with fail
    refine (works_any _ hT).mono ?_
    rintro e w6 ⟨rfl, hb6⟩
    go_wp2_with fail
    go_ret
    exact ⟨rfl, hb6⟩
  · have hne : ((l.length : Int) == 0) = false := by simp; intro e; exact h0 (by rw [e]; rfl)
    obtain ⟨k, hk⟩ : ∃ k, at_ % (8 * l.length) = k := ⟨_, rfl⟩
    have hkl : k ≤ 8 * l.length := by rw [← hk]; exact Nat.le_of_lt (Nat.mod_lt _ (by omega))
    have hki : (at_ : Int) % (8 * (l.length : Int)) = (k : Int) := by rw [← hk]; simp
    have hbu := burst hA.2.1 hkl hm 0
    have hpos : 0 < l.length := by omega
    have hsl := spoilt_length l k m
    have hsa := spoilt_all l k m
    have HK := Lib.hid hki
    have HSL := Lib.hid hsl
    have HB := Lib.hid hbu
    clear hk hki hsl h0 hbu
    go_enter Tryd.func5, Tryd.ntmps5
    go_wp2_with fail
    rw [HK.out]
    refine (turned_any A _ ca l k m _ rfl hA.1 hA.2.1 hm hkl hsz).mono ?_
    rintro e w1 ⟨A1, c1, n, rfl, hn, hown, hc1, hb1⟩
    have hok : Ok w1 A1 (spoilt l k m) := ⟨hown.rd, hsa, by rw [HSL.out]; exact hsz⟩
    have hT1 := hT.next hb1
    have hA1 := hA.next hb1
    have hcmp : ((more 0 (spoilt l k m) : Int) == (more 0 l : Int)) = ((n : Int) == 0) := by
      rw [Bool.eq_iff_iff, beq_iff_eq, beq_iff_eq, Int.natCast_inj, HB.out, ← hn]
      omega
    have C1 := of1 w1 A1 (spoilt l k m) c1 hT1 hok
    rw [HSL.out] at C1
    have HC := Lib.hid C1
    have HN := Lib.hid hn
    clear hn C1 hown
    go_wp2_with fail
    refine HC.out.mono ?_
    rintro e w2 ⟨rfl, hb2⟩
    have hb12 := below_next hb1 hb2
    go_wp2_with fail
    refine (of1 _ _ _ _ (hT.next hb12) (hA.next hb12)).mono ?_
    rintro e w3 ⟨rfl, hb3⟩
    have hb13 := below_next hb12 hb3
    go_wp2_with fail
    refine (works_any _ (hT.next hb13)).mono ?_
    rintro e w6 ⟨rfl, hb6⟩
    go_wp2_with fail
    go_ret
    exact ⟨rfl, below_next hb13 hb6⟩
end Go.Proofs.YtfbchegfkilhpaaDoor.Crc
