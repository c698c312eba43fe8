/- The laws of layer 3, as walks. -/
import Derived.Test.YtfbchegfkilhpaaNumWalksC
import Derived.Test.YtfbchegfkilhpaaNumWalksD
import Derived.Deep.RegionWith
import Derived.OpenShut
namespace Go.Proofs.Ytfbchegfkilhpaa.Num
open Go.RowKit Go.Proofs.Ytfbchegfkilhpaa.Shift Go.Proofs.Ytfbchegfkilhpaa.Mem

theorem num258 : numB 258 = [2, 1, 2] := by decide
theorem num0 : numB 0 = [0] := by decide
theorem rd_lit3 (w : World) (a b c : Nat) : Rd (w.alloc (.cells #[.int .u8 (a : Int), .int .u8 (b : Int), .int .u8 (c : Int)] 5)) (w.heap.size + 1) (some ⟨w.heap.size, 0, none⟩) (BB [a, b, c]) := Rd.new w [.int .u8 (a : Int), .int .u8 (b : Int), .int .u8 (c : Int)] 5
theorem all_lit {l : List Nat} (h : l.all (fun x => decide (x < 256)) = true) : AllB l := fun x hx => by simpa using List.all_eq_true.1 h x hx
theorem all_app {a b : List Nat} (ha : AllB a) (hb : AllB b) : AllB (a ++ b) := fun x hx => (List.mem_append.1 hx).elim (ha x) (hb x)
theorem below_next {w w1 w2 : World} (h : Below w.heap.size w w1) (h2 : Below w1.heap.size w1 w2) : Below w.heap.size w w2 := h.trans (h2.mono h.size)
theorem below_new {w w1 : World} (h : Below w.heap.size w w1) (o : Obj) : Below w.heap.size w (w1.alloc o) := h.alloc h.size o
theorem bytesLess_eq : ∀ (a b : List Nat), AllB a → AllB b → Op.bytesLess (a.map UInt8.ofNat) (b.map UInt8.ofNat) = lessB a b
  | [], [], _, _ => rfl
  | [], _ :: _, _, _ => rfl
  | _ :: _, [], _, _ => rfl
  | x :: a, y :: b, ha, hb => by
    have hx := ha x List.mem_cons_self
    have hy := hb y List.mem_cons_self
    rw [List.map_cons, List.map_cons, Op.bytesLess, lessB, bytesLess_eq a b (fun z hz => ha z (List.mem_cons_of_mem _ hz)) (fun z hz => hb z (List.mem_cons_of_mem _ hz))]
    have e1 : (UInt8.ofNat x == UInt8.ofNat y) = decide (x = y) := by
      by_cases h : x = y
      · subst h; simp
      · rw [decide_eq_false h]; exact beq_eq_false_iff_ne.2 (fun e => h (ofNat_inj hx hy e))
    have e2 : decide (UInt8.ofNat x < UInt8.ofNat y) = decide (x < y) := by
      congr 1
      rw [UInt8.lt_iff_toNat_lt, UInt8.toNat_ofNat', UInt8.toNat_ofNat', Nat.mod_eq_of_lt (by simpa using hx), Nat.mod_eq_of_lt (by simpa using hy)]
    rw [e1, e2]
theorem less_num {u v : Nat} (hu : u < 18446744073709551616) (hv : v < 18446744073709551616) : Op.bytesLess (strB (numB u)).toList (strB (numB v)).toList = decide (u < v) := by
  rw [ByteArray.toList_eq, ByteArray.toList_eq, ← lessB_num hu hv, ← bytesLess_eq _ _ (numB_all u) (numB_all v)]
  simp [strB]
theorem same_num {u v : Nat} (hu : u < 18446744073709551616) (hv : v < 18446744073709551616) : ((strB (numB u)).toList == (strB (numB v)).toList) = ((u : Int) == (v : Int)) := by
  rw [str_eq (numB_all u) (numB_all v)]
  by_cases h : u = v
  · subst h; simp
  · rw [decide_eq_false (fun e => h ((numB_inj hu hv).1 e))]
    exact (beq_eq_false_iff_ne.2 (by omega)).symm
theorem works_any (w : World) : Calls Try.prog 29 #[] w fun e w' => e = .returned (.bool true) ∧ Below w.heap.size w w' := by
  have c1 := fun w => append_any none 0 0 [] 258 w rfl (by decide) Rd.nil (by simp)
  have c2 := fun w => append_any none 0 0 [] 0 w rfl (by decide) Rd.nil (by simp)
  have c3 := fun w => size_any 258 w (by decide)
  rw [List.nil_append] at c1 c2
  rw [num258] at c1 c3
  rw [num0] at c2
  have C1 := Lib.hid c1
  have C2 := Lib.hid c2
  have C3 := Lib.hid c3
  clear c1 c2 c3
  go_enter Try.func29, Try.ntmps29
  go_wp2_with fail
  refine (C1.out _).mono ?_
  rintro e w1 ⟨A1, c1, rfl, hown1, _, hb1⟩
  go_wp2_with fail
  have k1 : AllB [2, 1, 2] := all_lit (by decide)
  have k0 : AllB [0] := all_lit (by decide)
  refine (equal_any _ _ _ _ _ _ _ _ _ [2, 1, 2] [2, 1, 2] rfl rfl k1 k1 (hown1.rd.alloc (Nat.le_refl _) _) (rd_lit3 _ 2 1 2)).mono ?_
  rintro e w' ⟨rfl, rfl⟩
  have hb2 := below_new hb1 (.cells #[.int .u8 2, .int .u8 1, .int .u8 2] 5)
  go_wp2_with fail
  refine (C2.out _).mono ?_
  rintro e w2 ⟨A2, c2, rfl, hown2, _, hb3⟩
  have hb4 := below_next hb2 hb3
  go_wp2_with fail
  refine (equal_any _ _ _ _ _ _ _ _ _ [0] [0] rfl rfl k0 k0 (hown2.rd.alloc (Nat.le_refl _) _) (rd_one _ 0)).mono ?_
  rintro e w' ⟨rfl, rfl⟩
  go_wp2_with fail
  refine (C3.out _).mono ?_
  rintro e w' ⟨rfl, rfl⟩
  go_wp2_with fail
  go_ret
  exact ⟨rfl, below_new hb4 _⟩
theorem writes_law (A : Option Addr) (c : Nat) (l : List Nat) (v : Nat) (w : World) (hv : v < 18446744073709551616) (hl : AllB l) (hr : Rd w w.heap.size A (BB l)) (hsz : l.length ≤ 140737488351232) :
    Calls Try.prog 6 #[.slice A l.length c, .int .u64 v] w fun e w' => e = .returned (.bool true) ∧ Below w.heap.size w w' := by
  have hall := all_app hl (numB_all v)
  go_enter Try.func6, Try.ntmps6
  go_wp2_with fail
  refine (append_any A _ c l v _ rfl hv hr (by omega)).mono ?_
  rintro e w1 ⟨A1, c1, rfl, hown1, _, hb1⟩
  go_wp2_with fail
  refine (rappend_any A _ c l v _ rfl hv ((hr.below hb1).more hb1.size) (by omega)).mono ?_
  rintro e w2 ⟨A2, c2, rfl, hown2, _, hb2⟩
  have hb3 := below_next hb1 hb2
  go_wp2_with fail
  refine (equal_any _ _ _ _ _ _ _ _ _ (l ++ numB v) (l ++ numB v) (by simp) (by simp) hall hall (hown1.rd.below hb2) hown2.rd).mono ?_
  rintro e w' ⟨rfl, rfl⟩
  go_wp2_with fail
  refine (size_any _ _ hv).mono ?_
  rintro e w' ⟨rfl, rfl⟩
  go_wp2_with fail
  refine (rappend_any none 0 0 [] v _ rfl hv Rd.nil (by simp)).mono ?_
  rintro e w4 ⟨A4, c4, rfl, hown4, _, hb4⟩
  have hb5 := below_next hb3 hb4
  go_wp2_with fail
  refine (works_any _).mono ?_
  rintro e w6 ⟨rfl, hb6⟩
  go_wp2_with fail
  go_ret
  exact ⟨rfl, below_next hb5 hb6⟩
theorem reads_law (A : Option Addr) (c : Nat) (l : List Nat) (at_ : Int) (w : World) (hl : AllB l) (hr : Rd w w.heap.size A (BB l)) (hle : l.length ≤ c) (hc : c ≤ 140737488351232) :
    Calls Try.prog 9 #[.slice A l.length c, .int .i64 at_] w fun e w' => e = .returned (.bool true) ∧ Below w.heap.size w w' := by
  obtain ⟨o, ho⟩ : ∃ o, readNum l at_ = o := ⟨_, rfl⟩
  have c1 := read_any A _ c l at_ w rfl hl hle (by omega) hr
  have c2 := fun (W : World) (hb : Below w.heap.size w W) => rread_any A _ c l at_ W rfl hl hle (by omega) ((hr.below hb).more hb.size)
  rw [ho] at c1 c2
  have C1 := Lib.hid c1
  have C2 := Lib.hid c2
  clear c1 c2 ho
  go_enter Try.func9, Try.ntmps9
  go_wp2_with fail
  refine C1.out.mono ?_
  rintro e w1 ⟨rfl, hb1⟩
  unfold outV
  go_wp2_with fail
  refine (C2.out _ hb1).mono ?_
  rintro e w' ⟨rfl, rfl⟩
  unfold outV
  go_wp2_with fail
  refine (works_any _).mono ?_
  rintro e w6 ⟨rfl, hb6⟩
  go_wp2_with fail
  go_ret
  exact ⟨rfl, below_next hb1 hb6⟩
theorem orders_law (u v : Nat) (w : World) (hu : u < 18446744073709551616) (hv : v < 18446744073709551616) :
    Calls Try.prog 7 #[.int .u64 u, .int .u64 v] w fun e w' => e = .returned (.bool true) ∧ Below w.heap.size w w' := by
  go_enter Try.func7, Try.ntmps7
  go_wp2_with fail
  have C1 := Lib.hid (fun W => append_any none 0 0 [] u W rfl hu Rd.nil (by simp))
  have C2 := Lib.hid (fun W => append_any none 0 0 [] v W rfl hv Rd.nil (by simp))
  go_region_with (first
    | (go_at_call_of 26 (Value.int IntKind.u64 (u : Int)); refine (C1.out _).mono ?_; rintro e w1 ⟨A1, c1, rfl, hown1, _, hb1⟩; have hs1 := run_str w1 _ A1 (numB u).length c1 (numB u) rfl hown1.rd)
    | (go_at_call_of 26 (Value.int IntKind.u64 (v : Int)); refine (C2.out _).mono ?_; rintro e w2 ⟨A2, c2, rfl, hown2, _, hb2⟩; have hs2 := run_str w2 _ A2 (numB v).length c2 (numB v) rfl hown2.rd; have hs3 := run_str w2 _ A1 (numB u).length c1 (numB u) rfl (hown1.rd.below hb2)))
  all_goals
    have hb3 := below_next (below_next (below_drewN' w 1) hb1) hb2
    have hl := less_num hu hv
    have he := same_num hu hv
    clear hs1 hs2 hs3 hown1 hown2 hb1 hb2 C1 C2
    go_wp2_with fail
    refine (works_any _).mono ?_
    rintro e w6 ⟨rfl, hb6⟩
    go_wp2_with fail
    go_ret
    exact ⟨rfl, below_next hb3 hb6⟩
theorem wf_u64 {a : Int} (h : (Lit.int .u64 a).wf = true) : ∃ v : Nat, a = (v : Int) ∧ v < 18446744073709551616 := by
  have := bounds_u64 h
  exact ⟨a.toNat, by omega, by omega⟩
theorem wf_u8 {a : Int} (h : (Lit.int .u8 a).wf = true) : ∃ v : Nat, a = (v : Int) ∧ v < 256 := by
  have := bounds_u8 h
  exact ⟨a.toNat, by omega, by omega⟩
end Go.Proofs.Ytfbchegfkilhpaa.Num
