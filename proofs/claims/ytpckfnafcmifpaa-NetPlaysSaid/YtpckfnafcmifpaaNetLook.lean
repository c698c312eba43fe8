/- Layer 36 (net): Equal, Look, Send. -/
import Derived.Test.YtpckfnafcmifpaaNetCalls
import Derived.Deep.RegionLaw
import Derived.BigQuiet
namespace Go.Proofs.Ytpckfnafcmifpaa.Net
open Go.RowKit Go.Proofs.Ytpckfnafcmifpaa.Mem

theorem BB_get (l : List Nat) (k : Nat) (h : k < l.length) : (BB l)[k]? = some (.int .u8 (l.getD k 0 : Int)) := by
  simp [BB, List.getElem?_eq_getElem h]
theorem take_lastI (m : List Int) (j : Nat) (h : j < m.length) : m.take (j + 1) = m.take j ++ [m.getD j 0] := by
  rw [List.take_succ_eq_append_getElem h]; simp [List.getD, h]
theorem take_last (m : List Nat) (j : Nat) (h : j < m.length) : m.take (j + 1) = m.take j ++ [m.getD j 0] := by
  rw [List.take_add_one, List.getElem?_eq_getElem h]
  simp [List.getD, h]
theorem bequal_any (B B' : Nat) (A A' : Option Addr) (n m c c' : Nat) (a b : List Nat) (w : World) (hn : n = a.length) (hm : m = b.length) (h1 : Rd w B A (BB a)) (h2 : Rd w B' A' (BB b)) (hsz : a.length ≤ 9223372036854775807) :
    Calls Try.prog 49 #[.slice A n c, .slice A' m c'] w fun e w' => e = .returned (.bool (decide (a = b))) ∧ ∃ q, w' = w.drewN q := by
  subst hn hm
  by_cases hl : a.length = b.length
  · have hne : ((a.length : Int) != (b.length : Int)) = false := by simp; omega
    have HL := Lib.hid hl
    clear hl
    go_enter Try.func49, Try.ntmps49
    go_wp2
    go_loopw [13] (fun i wr => ∃ k q : Nat, k ≤ a.length ∧ i = .int .i64 (k : Int) ∧ Hid (a.take k = b.take k) ∧ wr = w.drewN q) (fun i _ => a.length - (intOf i).toNat)
    case atStart => exact ⟨0, 0, Nat.zero_le _, rfl, rfl, rfl⟩
    case round =>
      obtain ⟨k, q, hk, rfl, ht, rfl⟩ := hrel
      by_cases hlt : k < a.length
      · have hlt2 : k < b.length := by rw [← HL.out]; exact hlt
        obtain ⟨b1, o1, rfl, hb1, hc1⟩ := h1.at_ (BB_get a k hlt)
        obtain ⟨b2, o2, rfl, hb2, hc2⟩ := h2.at_ (BB_get b k hlt2)
        by_cases hxy : a.getD k 0 = b.getD k 0
        · have ht2 : Hid (a.take (k + 1) = b.take (k + 1)) := by show _ = _; rw [take_last a k hlt, take_last b k hlt2, ht.out, hxy]
          rw [hxy] at hc1
          generalize b.getD k 0 = y at *
          clear hxy ht
          go_wp2
          go_quiet (fail)
          go_wp2
          go_roundw
          case rel => exact ⟨k + 1, q + nq, by omega, by go_num, ht2, by simp⟩
          case measure => simp [intOf]; omega
        · have hf : decide (a = b) = false := decide_eq_false (fun e => hxy (by rw [e]))
          have HF := Lib.hid hf
          have hb : ((a.getD k 0 : Int) != (b.getD k 0 : Int)) = true := by rw [bne_iff_ne]; intro h; exact hxy (by omega)
          generalize a.getD k 0 = x at *
          generalize b.getD k 0 = y at *
          clear hxy ht hf
          go_wp2
          go_quiet (fail)
          go_wp2
          go_ret
          exact ⟨ret_bool HF.out.symm, q + nq, by simp⟩
      · have hf : decide (a = b) = true := by
          have e1 : a.take k = a := List.take_of_length_le (by omega)
          have e2 : b.take k = b := List.take_of_length_le (by rw [← HL.out]; omega)
          have := ht.out
          rw [e1, e2] at this
          exact decide_eq_true this
        have HF := Lib.hid hf
        clear hf ht
        go_wp2
        go_ret
        exact ⟨ret_bool HF.out.symm, q, rfl⟩
  · have hne : ((a.length : Int) != (b.length : Int)) = true := by simp; omega
    have hf : decide (a = b) = false := decide_eq_false (fun e => hl (by rw [e]))
    have HF := Lib.hid hf
    clear hf hl
    go_enter Try.func49, Try.ntmps49
    go_wp2
    go_ret
    exact ⟨ret_bool HF.out.symm, 0, rfl⟩
/-- a look at a net gives the message's bytes once more -/
def LooksAt (w : World) (m : MsgM) (e : Ending) (w' : World) : Prop := ∃ A c, e = .returned (.tuple #[.int .i64 m.to, .slice A m.b.length c, .bool true]) ∧ Own w' w.heap.size 5 (.slice A m.b.length c) (BB m.b) ∧ m.b.length ≤ c ∧ Below w.heap.size w w'
theorem look_no (p : Value) (pick : Int) (w : World) (h : NLen w p 0) : Calls Try.prog 21 #[p, .int .i64 pick] w fun e w' => e = .returned (.tuple #[.int .i64 0, .slice none 0 0, .bool false]) ∧ w = w' := by
  have C := kept (at_any p 0 pick w h (by decide))
  rw [show atI 0 pick = -1 from rfl] at C
  go_enter Try.func21, Try.ntmps21
  go_wp2_with fail
  refine C.out.mono ?_
  rintro e w' ⟨rfl, hw'⟩
  subst hw'
  go_wp2
  go_ret3
  exact ⟨rfl, rfl⟩
set_option maxRecDepth 100000 in
set_option maxHeartbeats 4000000 in
theorem look_at (S : Nat → Prop) (g : Nat) (xs : List OneM) (pick : Int) (x : OneM) (w : World) (h : Nst w S g xs) (hx : xs[(atI xs.length pick).toNat]? = some x) :
    Calls Try.prog 21 #[.pointer (some ⟨g, 0, none⟩), .int .i64 pick] w (LooksAt w x.msg) := by
  have C := kept (at_any _ xs.length pick w h.len h.2.2.1)
  have hlt := (List.getElem?_eq_some_iff.1 hx).1
  obtain ⟨h1, h2⟩ := at_range pick (show 0 < xs.length by omega)
  obtain ⟨i, hi⟩ : ∃ i : Nat, atI xs.length pick = (i : Int) := ⟨(atI xs.length pick).toNat, by omega⟩
  rw [hi] at C hx h2
  rw [Int.toNat_natCast] at hx
  obtain ⟨X, c, r, rfl, hg, hr, hgl, -, ⟨c0, c1, c2⟩, hl⟩ := h.spot hx
  obtain ⟨to, A, b, cc, bad⟩ := x
  obtain ⟨⟨hab, hbl, -⟩, hrd, -⟩ := hl
  dsimp only [OneM.msg] at *
  have CC := kept (fun W (hb : Below w.heap.size w W) => bclone_any A _ cc b W rfl (hrd.next hb) (by omega))
  have hi2 : (i : Int) < (xs.length : Int) := by omega
  have hi3 : (0 : Int) ≤ (i : Int) := by omega
  have hi4 := h.2.2.1
  have hbd : Below w.heap.size w w.drew := (Below.refl _ _).drew
  have HC : Kept (∀ W, Below w.heap.size w W → W.cell? ⟨g, 0, none⟩ = some (.slice (some ⟨r, 0, none⟩) xs.length c) ∧ W.cell? ⟨r, i * 3, none⟩ = some (.int .i64 to) ∧ W.cell? ⟨r, i * 3 + 1, none⟩ = some (.slice A b.length cc)) :=
    ⟨fun W hb => ⟨(hb.cell (p := ⟨g, 0, none⟩) hgl).trans hg, (hb.cell (p := ⟨r, i * 3, none⟩) hr).trans c0, (hb.cell (p := ⟨r, i * 3 + 1, none⟩) hr).trans c1⟩⟩
  clear h hx hrd hab hi hlt
  go_enter Try.func21, Try.ntmps21
  go_wp2_with fail
  refine C.out.mono ?_
  rintro e w' ⟨rfl, hw'⟩
  subst hw'
  go_wp2_with fail
  go_region_with (go_at_call 46; refine (CC.out _ (by assumption)).mono ?_; rintro en w2 ⟨A2, c2', rfl, ho2, hc2, hb2⟩; obtain ⟨x0, x1, x2⟩ := HC.out _ (hbd.trans (hb2.mono hbd.size)); have HO := kept ho2; have HB := kept hb2)
  all_goals
    go_wp2
    go_ret3
    exact ⟨A2, c2', rfl, HO.out.mono hbd.size, hc2, hbd.trans (HB.out.mono hbd.size)⟩
end Go.Proofs.Ytpckfnafcmifpaa.Net
