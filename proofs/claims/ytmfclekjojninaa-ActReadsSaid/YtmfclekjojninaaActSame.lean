/- Layer 37 (act): two acts compared; the walk of the document's Same. -/
import Derived.Test.YtmfclekjojninaaActRDec
import Derived.Deep.QuietTactic
import Derived.BigQuiet
import Derived.DeepKeys
namespace Go.Proofs.Ytmfclekjojninaa.Act
open Go.RowKit Go.Proofs.Ytmfclekjojninaa.Mem Go.Proofs.Ytmfclekjojninaa.Card Go.Proofs.Ytmfclekjojninaa.Pack Go.Proofs.Ytmfclekjojninaa.Num Go.Proofs.Ytmfclekjojninaa.Shift

section
variable {P : Program} {t : TypeId}
theorem lits_int {q : IntKind} {n : Int} (hu : P.underlying t = some (.int q)) (hw : (Lit.int q n).wf = true) : P.keyLits 1 t [.int q n] = some [.int q n] := by simp [Program.keyLits, hu, hw]
theorem lits_string {s : ByteArray} (hu : P.underlying t = some .string) (hw : s.size ≤ maxLen) : P.keyLits 1 t [.string s] = some [.string s.data.toList] := by simp [Program.keyLits, hu, hw]
end
theorem act_lits {x : ActM} (h : x.Ok) : Try.prog.keyLits 2 62 x.cells = some [.int .u8 x.k, .int .u8 x.who, .int .u64 x.cid, .int .u8 x.f, .string x.t.data.toList, .int .i64 x.p, .int .i64 x.a, .int .u32 x.m] := by
  obtain ⟨h1, h2, h3, h4, h5, h6, h7, h8⟩ := h
  have c0 : Try.prog.cellsOf 62 = 8 := by kernel_rfl
  have c1 : Try.prog.cellsOf 5 = 1 := by kernel_rfl
  have c2 : Try.prog.cellsOf 60 = 1 := by kernel_rfl
  have c3 : Try.prog.cellsOf 9 = 1 := by kernel_rfl
  have c4 : Try.prog.cellsOf 3 = 1 := by kernel_rfl
  have c5 : Try.prog.cellsOf 27 = 1 := by kernel_rfl
  have l1 := lits_int (n := (x.k : Int)) Try.underlying5 (by simp [Lit.wf, IntKind.min, IntKind.max, IntKind.signed, IntKind.bits]; omega)
  have l2 := lits_int (n := (x.who : Int)) Try.underlying5 (by simp [Lit.wf, IntKind.min, IntKind.max, IntKind.signed, IntKind.bits]; omega)
  have l3 := lits_int (n := (x.cid : Int)) Try.underlying60 (by simp [Lit.wf, IntKind.min, IntKind.max, IntKind.signed, IntKind.bits]; omega)
  have l4 := lits_int (n := (x.f : Int)) Try.underlying5 (by simp [Lit.wf, IntKind.min, IntKind.max, IntKind.signed, IntKind.bits]; omega)
  have l5 := lits_string (s := x.t) Try.underlying9 (by unfold maxLen; omega)
  have l6 := lits_int (n := x.p) Try.underlying3 (by simp [Lit.wf, IntKind.min, IntKind.max, IntKind.signed, IntKind.bits]; omega)
  have l7 := lits_int (n := x.a) Try.underlying3 (by simp [Lit.wf, IntKind.min, IntKind.max, IntKind.signed, IntKind.bits]; omega)
  have l8 := lits_int (n := (x.m : Int)) Try.underlying27 (by simp [Lit.wf, IntKind.min, IntKind.max, IntKind.signed, IntKind.bits]; omega)
  unfold Program.keyLits
  rw [Try.underlying62]
  unfold ActM.cells
  simp [c0, c1, c2, c3, c4, c5, l1, l2, l3, l4, l5, l6, l7, l8]
theorem act_ext {x y : ActM} : x = y ↔ x.k = y.k ∧ x.who = y.who ∧ x.cid = y.cid ∧ x.f = y.f ∧ x.t = y.t ∧ x.p = y.p ∧ x.a = y.a ∧ x.m = y.m := by
  obtain ⟨xk, xwho, xcid, xf, xt, xp, xa, xm⟩ := x
  obtain ⟨yk, ywho, ycid, yf, yt, yp, ya, ym⟩ := y
  simp
instance : DecidableEq ActM := fun _ _ => decidable_of_iff _ act_ext.symm
theorem act_formed (x : ActM) : x.val.formed Try.prog 62 = true := by
  unfold ActM.val
  kernel_rfl
theorem act_eq {x y : ActM} (hx : x.Ok) (hy : y.Ok) (w : World) : (Op.equal 62 x.val y.val).run Try.prog w = .ok (decide (x = y)) w := by
  obtain ⟨r, hr, hiff⟩ := run_equalIn_deep (P := Try.prog) 9998 2 62 (by kernel_rfl) w 2 2 x.val y.val _ _ (act_formed x) (act_formed y) (act_lits hx) (act_lits hy)
  have e : r = decide (x = y) := by
    rw [Bool.eq_iff_iff, hiff, decide_eq_true_eq]
    obtain ⟨xk, xwho, xcid, xf, ⟨⟨xt⟩⟩, xp, xa, xm⟩ := x
    obtain ⟨yk, ywho, ycid, yf, ⟨⟨yt⟩⟩, yp, ya, ym⟩ := y
    simp [Int.natCast_inj]
  rw [← e]
  exact hr
theorem run_neq_act {x y : ActM} (hx : x.Ok) (hy : y.Ok) (w : World) : (binOp .neq 62 x.val y.val).run Try.prog w = .ok (.bool (!decide (x = y))) w := by
  have e := act_eq hx hy w
  unfold ActM.val at e ⊢
  simp only [binOp]
  simp [e]
set_option maxRecDepth 100000 in
set_option maxHeartbeats 4000000 in
theorem same_any (A B : Option Addr) (n m c d : Nat) (l k : List ActM) (w : World) (hn : n = l.length) (hm : m = k.length) (r1 : actE.Rd w w.heap.size A l) (r2 : actE.Rd w w.heap.size B k) (hsz : l.length ≤ 9223372036854775807) (hsz2 : k.length ≤ 9223372036854775807) (ok1 : ∀ x ∈ l, x.Ok) (ok2 : ∀ x ∈ k, x.Ok) :
    Calls Try.prog 34 #[.slice A n c, .slice B m d] w fun e w' => e = .returned (.bool (decide (l = k))) ∧ ∃ q, w' = w.drewN q := by
  subst hn hm
  have HK1 := kept ok1
  have HK2 := kept ok2
  clear ok1 ok2
  by_cases hlen : l.length = k.length
  · have HLEN := kept hlen
    obtain ⟨N, hN⟩ : ∃ N, k.length = N := ⟨_, rfl⟩
    have hN1 : l.length = N := hlen.trans hN
    rw [hN, hN1]
    rw [hN1] at hsz
    have HN := kept hN
    have HN1 := kept hN1
    clear hN hN1 hlen hsz2
    go_enter Try.func34, Try.ntmps34
    go_wp2
    go_loopw [5] (fun i wr => ∃ (j q : Nat), j ≤ N ∧ i = .int .i64 (j : Int) ∧ Kept (l.take j = k.take j) ∧ wr = w.drewN q) (fun i _ => N - (intOf i).toNat)
    case atStart => exact ⟨0, 0, Nat.zero_le _, rfl, ⟨by simp⟩, rfl⟩
    case round =>
      obtain ⟨j, q, hj, rfl, hE, rfl⟩ := hrel
      by_cases hlt : j < N
      · obtain ⟨x, hx⟩ : ∃ x, l[j]? = some x := ⟨_, List.getElem?_eq_getElem (by rw [HN1.out]; exact hlt)⟩
        obtain ⟨y, hy⟩ : ∃ y, k[j]? = some y := ⟨_, List.getElem?_eq_getElem (by rw [HN.out]; exact hlt)⟩
        obtain ⟨b, o, rfl, hbb, c0, c1, c2, c3, c4, c5, c6, c7⟩ := act_cells r1 hx
        obtain ⟨b', o', rfl, hbb', d0, d1, d2, d3, d4, d5, d6, d7⟩ := act_cells r2 hy
        have hi0 : (0 : Int) ≤ (j : Int) := by omega
        have hi1 : (j : Int) < (N : Int) := by omega
        have hne := fun W => run_neq_act (HK1.out x (List.mem_of_getElem? hx)) (HK2.out y (List.mem_of_getElem? hy)) W
        unfold ActM.val at hne
        by_cases hxy : x = y
        · rw [show (!decide (x = y)) = false from by rw [decide_eq_true hxy]; rfl] at hne
          have HE : Kept (l.take (j + 1) = k.take (j + 1)) := ⟨by
            obtain ⟨h1, e1⟩ := List.getElem?_eq_some_iff.1 hx
            obtain ⟨h2, e2⟩ := List.getElem?_eq_some_iff.1 hy
            rw [List.take_succ_eq_append_getElem h1, List.take_succ_eq_append_getElem h2, hE.out, e1, e2, hxy]⟩
          clear hx hy hxy hE
          go_wp2
          go_quiet (fail)
          go_wp2
          go_roundw
          case rel => exact ⟨j + 1, _, by omega, by go_num, HE, rfl⟩
          case measure => simp [intOf]; omega
        · rw [show (!decide (x = y)) = true from by rw [decide_eq_false hxy]; rfl] at hne
          have HE : Kept (decide (l = k) = false) := ⟨decide_eq_false fun e => hxy (by rw [e] at hx; exact Option.some.inj (hx.symm.trans hy))⟩
          clear hx hy hxy hE
          go_wp2
          go_quiet (fail)
          go_wp2
          go_ret
          exact ⟨ret_bool HE.out.symm, _, World.drewN_drewN _ _ _⟩
      · have HE : Kept (decide (l = k) = true) := ⟨decide_eq_true (by
          have := hE.out
          rwa [List.take_of_length_le (by rw [HN1.out]; omega), List.take_of_length_le (by rw [HN.out]; omega)] at this)⟩
        clear hE
        go_wp2
        go_ret
        exact ⟨ret_bool HE.out.symm, _, rfl⟩
  · have HE : Kept (decide (l = k) = false) := ⟨decide_eq_false fun e => hlen (by rw [e])⟩
    have hb : ((l.length : Int) != (k.length : Int)) = true := by simp; omega
    generalize l.length = N at *
    generalize k.length = M at *
    clear hlen
    go_enter Try.func34, Try.ntmps34
    go_wp2
    go_ret
    exact ⟨ret_bool HE.out.symm, 0, rfl⟩
end Go.Proofs.Ytmfclekjojninaa.Act
