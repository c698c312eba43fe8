/- Layer 22 (disk): the walks of the document's functions. -/
import Derived.Test.YtenkccfglmkdmaaDiskCopy
namespace Go.Proofs.Ytenkccfglmkdmaa.Disk
open Go.RowKit Go.Proofs.Ytenkccfglmkdmaa.Mem

/-- the document's disk -/
def rV (d : DS) : Value := .agg #[.string (strB d.b0), .string (strB d.b1), .int .i64 (d.s0 : Int), .int .i64 (d.s1 : Int), .int .i64 (d.room : Int), .int .i64 d.fuse, .bool d.down]
/-- a call of the document's gives v, and memory of its own -/
def RGives (w : World) (v : Value) (e : Ending) (w' : World) : Prop := e = .returned v ∧ Below w.heap.size w w'
theorem rroom_any (n : Int) (w : World) : Calls Try.prog 31 #[.int .i64 n] w fun e w' => e = .returned (.int .i64 (roomN n : Int)) ∧ w = w' := by
  by_cases h0 : n < 0
  · rw [show roomN n = 0 from by unfold roomN; omega]
    go_enter Try.func31, Try.ntmps31
    go_wp2
    go_ret
    exact ⟨rfl, rfl⟩
  · by_cases h1 : 1048576 < n
    · rw [show roomN n = 1048576 from by unfold roomN; omega]
      go_enter Try.func31, Try.ntmps31
      go_wp2
      go_ret
      exact ⟨rfl, rfl⟩
    · rw [show (roomN n : Int) = n from by unfold roomN; omega]
      go_enter Try.func31, Try.ntmps31
      go_wp2
      go_ret
      exact ⟨rfl, rfl⟩
theorem rnew_any (n : Int) (w : World) : Calls Try.prog 17 #[.int .i64 n] w (RGives w (rV (newD n))) := by
  have C := kept (fun W => rroom_any n W)
  have e : rV (newD n) = .agg #[.string ⟨#[]⟩, .string ⟨#[]⟩, .int .i64 0, .int .i64 0, .int .i64 (roomN n : Int), .int .i64 (-1), .bool false] := rfl
  rw [e]
  clear e
  generalize roomN n = m at *
  go_enter Try.func17, Try.ntmps17
  go_wp2_with fail
  refine (C.out _).mono ?_
  rintro e w' ⟨rfl, rfl⟩
  go_wp2
  have hk := Blk.new w [.string ⟨#[]⟩, .string ⟨#[]⟩, .int .i64 0, .int .i64 0, .int .i64 (m : Int), .int .i64 (-1), .bool false] 42
  have z0 := hk.cell (j := 0) rfl
  have z1 := hk.cell (j := 1) rfl
  have z2 := hk.cell (j := 2) rfl
  have z3 := hk.cell (j := 3) rfl
  have z4 := hk.cell (j := 4) rfl
  have z5 := hk.cell (j := 5) rfl
  have z6 := hk.cell (j := 6) rfl
  refine bodyPost_ret (v := .agg #[.string ⟨#[]⟩, .string ⟨#[]⟩, .int .i64 0, .int .i64 0, .int .i64 (m : Int), .int .i64 (-1), .bool false]) (by simp [results, Try.results17, go_sem, z0, z1, z2, z3, z4, z5, z6]) rfl ⟨rfl, (Below.refl _ _).alloc (Nat.le_refl _) _⟩
/-- the document's disk, by its cells -/
def rC (p q : ByteArray) (s t m fu : Int) (dn : Bool) : List Value := [.string p, .string q, .int .i64 s, .int .i64 t, .int .i64 m, .int .i64 fu, .bool dn]
theorem rV_eq (d : DS) : rV d = .agg (rC (strB d.b0) (strB d.b1) d.s0 d.s1 d.room d.fuse d.down).toArray := rfl
theorem cells7 (W : World) (g : Nat) (hg : g = W.heap.size) (a b c d e f h : Value) : (W.alloc (.cells #[a, b, c, d, e, f, h] 42)).cell? ⟨g, 0, none⟩ = some a ∧ (W.alloc (.cells #[a, b, c, d, e, f, h] 42)).cell? ⟨g, 1, none⟩ = some b ∧ (W.alloc (.cells #[a, b, c, d, e, f, h] 42)).cell? ⟨g, 2, none⟩ = some c ∧ (W.alloc (.cells #[a, b, c, d, e, f, h] 42)).cell? ⟨g, 3, none⟩ = some d ∧ (W.alloc (.cells #[a, b, c, d, e, f, h] 42)).cell? ⟨g, 4, none⟩ = some e ∧ (W.alloc (.cells #[a, b, c, d, e, f, h] 42)).cell? ⟨g, 5, none⟩ = some f ∧ (W.alloc (.cells #[a, b, c, d, e, f, h] 42)).cell? ⟨g, 6, none⟩ = some h := by
  have hk := Blk.newAt W [a, b, c, d, e, f, h] 42 hg
  exact ⟨hk.cell (j := 0) rfl, hk.cell (j := 1) rfl, hk.cell (j := 2) rfl, hk.cell (j := 3) rfl, hk.cell (j := 4) rfl, hk.cell (j := 5) rfl, hk.cell (j := 6) rfl⟩
theorem rsetroom_any (p q : ByteArray) (s t m fu : Int) (dn : Bool) (n : Int) (w : World) :
    Calls Try.prog 23 #[.agg #[.string p, .string q, .int .i64 s, .int .i64 t, .int .i64 m, .int .i64 fu, .bool dn], .int .i64 n] w (RGives w (.agg #[.string p, .string q, .int .i64 s, .int .i64 t, .int .i64 (roomN n : Int), .int .i64 fu, .bool dn])) := by
  have C := kept (fun W => rroom_any n W)
  generalize roomN n = k at *
  go_enter Try.func23, Try.ntmps23
  go_wp2_with fail
  refine (C.out _).mono ?_
  rintro e w' ⟨rfl, rfl⟩
  go_wp2
  obtain ⟨z0, z1, z2, z3, z4, z5, z6⟩ := cells7 (w.alloc (.cells #[.string p, .string q, .int .i64 s, .int .i64 t, .int .i64 (k : Int), .int .i64 fu, .bool dn] 42)) (w.heap.size + 1) (by simp) (.string p) (.string q) (.int .i64 s) (.int .i64 t) (.int .i64 (k : Int)) (.int .i64 fu) (.bool dn)
  refine bodyPost_ret (v := .agg #[.string p, .string q, .int .i64 s, .int .i64 t, .int .i64 (k : Int), .int .i64 fu, .bool dn]) (by simp [results, Try.results23, go_sem, z0, z1, z2, z3, z4, z5, z6]) rfl ⟨rfl, ((Below.refl _ _).alloc (Nat.le_refl _) _).alloc (by simp) _⟩
theorem rsetfuse_any (p q : ByteArray) (s t m fu : Int) (dn : Bool) (n : Int) (w : World) :
    Calls Try.prog 24 #[.agg #[.string p, .string q, .int .i64 s, .int .i64 t, .int .i64 m, .int .i64 fu, .bool dn], .int .i64 n] w (RGives w (.agg #[.string p, .string q, .int .i64 s, .int .i64 t, .int .i64 m, .int .i64 (if dn = true then fu else max n (-1)), .bool dn])) := by
  cases dn with
  | true =>
    simp only [if_true]
    go_enter Try.func24, Try.ntmps24
    go_wp2
    obtain ⟨z0, z1, z2, z3, z4, z5, z6⟩ := cells7 (w.alloc (.cells #[.string p, .string q, .int .i64 s, .int .i64 t, .int .i64 m, .int .i64 fu, .bool true] 42)) (w.heap.size + 1) (by simp) (.string p) (.string q) (.int .i64 s) (.int .i64 t) (.int .i64 m) (.int .i64 fu) (.bool true)
    refine bodyPost_ret (v := .agg #[.string p, .string q, .int .i64 s, .int .i64 t, .int .i64 m, .int .i64 fu, .bool true]) (by simp [results, Try.results24, go_sem, z0, z1, z2, z3, z4, z5, z6]) rfl ⟨rfl, ((Below.refl _ _).alloc (Nat.le_refl _) _).alloc (by simp) _⟩
  | false =>
    simp only [Bool.false_eq_true, if_false]
    by_cases hn : n < 0
    · rw [show max n (-1) = -1 from by omega]
      go_enter Try.func24, Try.ntmps24
      go_wp2
      obtain ⟨z0, z1, z2, z3, z4, z5, z6⟩ := cells7 (w.alloc (.cells #[.string p, .string q, .int .i64 s, .int .i64 t, .int .i64 m, .int .i64 (-1), .bool false] 42)) (w.heap.size + 1) (by simp) (.string p) (.string q) (.int .i64 s) (.int .i64 t) (.int .i64 m) (.int .i64 (-1)) (.bool false)
      refine bodyPost_ret (v := .agg #[.string p, .string q, .int .i64 s, .int .i64 t, .int .i64 m, .int .i64 (-1), .bool false]) (by simp [results, Try.results24, go_sem, z0, z1, z2, z3, z4, z5, z6]) rfl ⟨rfl, ((Below.refl _ _).alloc (Nat.le_refl _) _).alloc (by simp) _⟩
    · rw [show max n (-1) = n from by omega]
      go_enter Try.func24, Try.ntmps24
      go_wp2
      obtain ⟨z0, z1, z2, z3, z4, z5, z6⟩ := cells7 (w.alloc (.cells #[.string p, .string q, .int .i64 s, .int .i64 t, .int .i64 m, .int .i64 n, .bool false] 42)) (w.heap.size + 1) (by simp) (.string p) (.string q) (.int .i64 s) (.int .i64 t) (.int .i64 m) (.int .i64 n) (.bool false)
      refine bodyPost_ret (v := .agg #[.string p, .string q, .int .i64 s, .int .i64 t, .int .i64 m, .int .i64 n, .bool false]) (by simp [results, Try.results24, go_sem, z0, z1, z2, z3, z4, z5, z6]) rfl ⟨rfl, ((Below.refl _ _).alloc (Nat.le_refl _) _).alloc (by simp) _⟩
theorem rburn_any (p q : ByteArray) (s t m fu : Int) (dn : Bool) (w : World) (hfu : -1 ≤ fu ∧ fu ≤ 9223372036854775807) :
    Calls Try.prog 32 #[.agg #[.string p, .string q, .int .i64 s, .int .i64 t, .int .i64 m, .int .i64 fu, .bool dn]] w (RGives w (.tuple #[.agg #[.string p, .string q, .int .i64 s, .int .i64 t, .int .i64 m, .int .i64 (if dn = true ∨ fu = 0 then fu else max (fu - 1) (-1)), .bool (dn || decide (fu = 0))], .bool (dn || decide (fu = 0))])) := by
  cases dn with
  | true =>
    simp only [true_or, if_true, Bool.true_or]
    go_enter Try.func32, Try.ntmps32
    go_wp2
    obtain ⟨z0, z1, z2, z3, z4, z5, z6⟩ := cells7 (w.alloc (.cells #[.string p, .string q, .int .i64 s, .int .i64 t, .int .i64 m, .int .i64 fu, .bool true] 42)) (w.heap.size + 1) (by simp) (.string p) (.string q) (.int .i64 s) (.int .i64 t) (.int .i64 m) (.int .i64 fu) (.bool true)
    refine bodyPost_ret (v := .tuple #[.agg #[.string p, .string q, .int .i64 s, .int .i64 t, .int .i64 m, .int .i64 fu, .bool true], .bool true]) (by simp [results, Try.results32, go_sem, z0, z1, z2, z3, z4, z5, z6]) rfl ⟨rfl, ((Below.refl _ _).alloc (Nat.le_refl _) _).alloc (by simp) _⟩
  | false =>
    simp only [Bool.false_eq_true, false_or, Bool.false_or]
    by_cases h0 : fu = 0
    · subst h0
      simp only [if_true, decide_true]
      go_enter Try.func32, Try.ntmps32
      go_wp2
      obtain ⟨z0, z1, z2, z3, z4, z5, z6⟩ := cells7 (w.alloc (.cells #[.string p, .string q, .int .i64 s, .int .i64 t, .int .i64 m, .int .i64 0, .bool true] 42)) (w.heap.size + 1) (by simp) (.string p) (.string q) (.int .i64 s) (.int .i64 t) (.int .i64 m) (.int .i64 0) (.bool true)
      refine bodyPost_ret (v := .tuple #[.agg #[.string p, .string q, .int .i64 s, .int .i64 t, .int .i64 m, .int .i64 0, .bool true], .bool true]) (by simp [results, Try.results32, go_sem, z0, z1, z2, z3, z4, z5, z6]) rfl ⟨rfl, ((Below.refl _ _).alloc (Nat.le_refl _) _).alloc (by simp) _⟩
    · rw [if_neg h0, decide_eq_false h0]
      by_cases h1 : 0 < fu
      · rw [show max (fu - 1) (-1) = fu - 1 from by omega]
        go_enter Try.func32, Try.ntmps32
        go_wp2
        obtain ⟨z0, z1, z2, z3, z4, z5, z6⟩ := cells7 (w.alloc (.cells #[.string p, .string q, .int .i64 s, .int .i64 t, .int .i64 m, .int .i64 (fu - 1), .bool false] 42)) (w.heap.size + 1) (by simp) (.string p) (.string q) (.int .i64 s) (.int .i64 t) (.int .i64 m) (.int .i64 (fu - 1)) (.bool false)
        refine bodyPost_ret (v := .tuple #[.agg #[.string p, .string q, .int .i64 s, .int .i64 t, .int .i64 m, .int .i64 (fu - 1), .bool false], .bool false]) (by simp [results, Try.results32, go_sem, z0, z1, z2, z3, z4, z5, z6]) rfl ⟨rfl, ((Below.refl _ _).alloc (Nat.le_refl _) _).alloc (by simp) _⟩
      · obtain rfl : fu = -1 := by omega
        rw [show max ((-1 : Int) - 1) (-1) = -1 from by omega]
        go_enter Try.func32, Try.ntmps32
        go_wp2
        obtain ⟨z0, z1, z2, z3, z4, z5, z6⟩ := cells7 (w.alloc (.cells #[.string p, .string q, .int .i64 s, .int .i64 t, .int .i64 m, .int .i64 (-1), .bool false] 42)) (w.heap.size + 1) (by simp) (.string p) (.string q) (.int .i64 s) (.int .i64 t) (.int .i64 m) (.int .i64 (-1)) (.bool false)
        refine bodyPost_ret (v := .tuple #[.agg #[.string p, .string q, .int .i64 s, .int .i64 t, .int .i64 m, .int .i64 (-1), .bool false], .bool false]) (by simp [results, Try.results32, go_sem, z0, z1, z2, z3, z4, z5, z6]) rfl ⟨rfl, ((Below.refl _ _).alloc (Nat.le_refl _) _).alloc (by simp) _⟩
end Go.Proofs.Ytenkccfglmkdmaa.Disk
