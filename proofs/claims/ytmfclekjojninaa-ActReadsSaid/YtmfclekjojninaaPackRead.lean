/- The walks of layer 4: a reader's calls. -/
import Derived.Test.YtmfclekjojninaaHold
import Derived.Test.YtmfclekjojninaaPackMath
import Derived.Test.YtmfclekjojninaaNumWalksC
import Derived.Lib.MinMax
import Derived.Deep.RegionHeld3
namespace Go.Proofs.Ytmfclekjojninaa.Pack
open Go.RowKit Go.Proofs.Ytmfclekjojninaa.Mem Go.Proofs.Ytmfclekjojninaa.Num

/-- a reader of r lies at block g, on the ground S -/
def Rdr (w : World) (S : Nat → Prop) (g : Nat) (r : RS) : Prop :=
  r.Ok ∧ S g ∧ (∀ k, S k → k < w.heap.size) ∧ ∃ A c, Blk w g [.slice A r.l.length c, .int .i64 (r.bad : Int)] 112 ∧ Rd w w.heap.size A (BB r.l) ∧ r.l.length ≤ c ∧ c ≤ 9223372036854775807 ∧ (∀ x, A = some x → S x.block ∧ x.block ≠ g)
/-- what a call on it gives: v, a reader of r' behind it; nothing but its own block turned -/
def Reads (S : Nat → Prop) (g : Nat) (w : World) (v : Value) (r' : RS) (e : Ending) (w' : World) : Prop := e = .returned v ∧ Rdr w' S g r' ∧ Upd (fun k => k = g) w w'
theorem Rdr.upd {T S : Nat → Prop} {w w' : World} {g : Nat} {r : RS} (h : Rdr w S g r) (hu : Upd T w w') (hd : ∀ k, S k → ¬ T k) : Rdr w' S g r := by
  obtain ⟨ho, hg, hS, A, c, hk, hr, hc, hcc, ha⟩ := h
  exact ⟨ho, hg, fun k hk => Nat.lt_of_lt_of_le (hS k hk) hu.size, A, c, hk.upd hu (hd g hg), (hr.upd hu (Nat.le_refl _) (fun x hx => hd _ (ha x hx).1)).more hu.size, hc, hcc, ha⟩
theorem Rdr.next {S : Nat → Prop} {w w' : World} {g : Nat} {r : RS} (h : Rdr w S g r) (hb : Below w.heap.size w w') : Rdr w' S g r := h.upd (Upd.of_below (S := fun _ => False) hb) fun _ _ e => e
theorem Rdr.ok {S : Nat → Prop} {w : World} {g : Nat} {r : RS} (h : Rdr w S g r) : r.Ok := h.1
theorem rerr_any (S : Nat → Prop) (g : Nat) (r : RS) (w : World) (h : Rdr w S g r) :
    Calls Try.prog 55 #[.pointer (some ⟨g, 0, none⟩)] w fun e w' => e = .returned (.int .i64 (r.bad : Int)) ∧ w = w' := by
  obtain ⟨ho, hg, hS, A, c, hk, hr, hc, hcc, ha⟩ := h
  have h1 := hk.cell (j := 1) rfl
  clear hr ha
  go_enter Try.func55, Try.ntmps55
  go_wp2
  go_ret
  exact ⟨rfl, rfl⟩
theorem rleft_any (S : Nat → Prop) (g : Nat) (r : RS) (w : World) (h : Rdr w S g r) :
    Calls Try.prog 88 #[.pointer (some ⟨g, 0, none⟩)] w fun e w' => e = .returned (.int .i64 (r.l.length : Int)) ∧ w = w' := by
  obtain ⟨ho, hg, hS, A, c, hk, hr, hc, hcc, ha⟩ := h
  have h0 := hk.cell (j := 0) rfl
  clear hr ha
  go_enter Try.func88, Try.ntmps88
  go_wp2
  go_ret
  exact ⟨rfl, rfl⟩
theorem left_any (S : Nat → Prop) (g : Nat) (r : RS) (w : World) (h : Rdr w S g r) :
    Calls Try.prog 75 #[.pointer (some ⟨g, 0, none⟩)] w fun e w' => e = .returned (.int .i64 (r.l.length : Int)) ∧ w = w' := by
  have HC := kept (rleft_any S g r w h)
  obtain ⟨ho, hg, hS, A, c, hk, hr, hc, hcc, ha⟩ := h
  have h0 := hk.cell (j := 0) rfl
  clear hr ha
  go_enter Try.func75, Try.ntmps75
  go_wp2_with fail
  refine HC.out.mono ?_
  rintro e w' ⟨rfl, rfl⟩
  go_wp2
  go_ret
  exact ⟨rfl, rfl⟩
/-- bytes taken off a reader: a slice of them -/
theorem take_any (S : Nat → Prop) (g : Nat) (r : RS) (n : Nat) (w : World) (h : Rdr w S g r) (hn : n ≤ r.l.length) (hb : r.bad = 0) :
    Calls Try.prog 70 #[.pointer (some ⟨g, 0, none⟩), .int .i64 (n : Int)] w fun e w' => ∃ A c, e = .returned (.slice A n c) ∧ n ≤ c ∧ Rd w' w'.heap.size A (BB (r.l.take n)) ∧ Rdr w' S g ⟨r.l.drop n, 0⟩ ∧ Upd (fun k => k = g) w w' := by
  obtain ⟨⟨o1, o2, o3, o4⟩, hg, hS, A, c, hk, hr, hc, hcc, ha⟩ := h
  rw [hb] at hk
  have h0 := hk.cell (j := 0) rfl
  have h1 := hk.cell (j := 1) rfl
  have f0 := hk.frozen 0
  have hlt := hk.lt
  have hrt := hr.take n
  rw [BB_take] at hrt
  have hrt := kept hrt
  have hrd := kept (hr.drop n c r.l.length hn hc (BB_length _))
  have hdl : (r.l.drop n).length = r.l.length - n := List.length_drop
  generalize hN : r.l.length = N at *
  have HN := kept hN
  have KK := kept hk
  have HA := kept ha
  have HDL := kept hdl
  clear hr ha hk hN hdl
  have hfin : Kept (∀ (w' : World) (A' : Option Addr) (c' : Nat), Rd w w.heap.size A' (BB (r.l.drop n)) → N - n ≤ c' → c' ≤ 9223372036854775807 → (∀ x, A' = some x → S x.block ∧ x.block ≠ g) → w' = w.setCell ⟨g, 0, none⟩ (.slice A' (N - n) c') →
      Rd w' w'.heap.size A (BB (r.l.take n)) ∧ Rdr w' S g ⟨r.l.drop n, 0⟩ ∧ Upd (fun k => k = g) w w') := ⟨by
    rintro w' A' c' h1 h2 h3 h4 rfl
    have hu : Upd (fun k => k = g) w (w.setCell ⟨g, 0, none⟩ (.slice A' (N - n) c')) := (Upd.refl (fun k => k = g) w).setCell (p := ⟨g, 0, none⟩) (.inl rfl) _
    have hkk := KK.out.set 0 (.slice A' (N - n) c')
    refine ⟨(hrt.out.upd hu (Nat.le_refl _) (fun x hx => (HA.out x hx).2)).more hu.size, ⟨⟨all_drop' o1 n, fun e => absurd rfl e, ?_, zlt⟩, hg, fun k hk => Nat.lt_of_lt_of_le (hS k hk) hu.size, A', c', ?_, (h1.upd hu (Nat.le_refl _) (fun x hx => (h4 x hx).2)).more hu.size, ?_, h3, h4⟩, hu⟩
    · rw [HDL.out]; omega
    · simp only [HDL.out]; exact hkk
    · rw [HDL.out]; exact h2⟩
  by_cases hcn : c = n
  · obtain rfl : c = n := hcn
    obtain rfl : N = c := by omega
    go_enter Try.func70, Try.ntmps70
    go_wp2
    go_ret
    have h := hrd.out
    simp only [if_true, BB_drop] at h
    obtain ⟨x1, x2, x3⟩ := hfin.out _ A 0 h (by omega) (by omega) HA.out (by rw [Nat.sub_self])
    exact ⟨A, N, rfl, Nat.le_refl _, x1, x2, x3⟩
  · go_enter Try.func70, Try.ntmps70
    go_wp2
    go_ret
    have h := hrd.out
    rw [if_neg hcn, BB_drop] at h
    obtain ⟨x1, x2, x3⟩ := hfin.out _ (A.map (·.add n)) (c - n) h (by omega) (by omega) (fun x hx => by
      rcases A with _ | ⟨b, o, sp⟩
      · cases hx
      · have hx : (⟨b, o, sp⟩ : Addr).add n = x := Option.some.inj hx
        have h2 := HA.out _ rfl
        have hbl : x.block = b := by rw [← hx]; unfold Addr.add; split <;> rfl
        rw [hbl]; exact h2) rfl
    exact ⟨A, c, rfl, by omega, x1, x2, x3⟩
theorem fail_any (S : Nat → Prop) (g : Nat) (r : RS) (x : Nat) (w : World) (h : Rdr w S g r) (hx : x < 9223372036854775807) :
    Calls Try.prog 53 #[.pointer (some ⟨g, 0, none⟩), .int .i64 (x : Int)] w (Reads S g w (.tuple #[]) (r.fail x)) := by
  have hok := h.ok.fail hx
  have HR := kept h
  obtain ⟨⟨o1, o2, o3, o4⟩, hg, hS, A, c, hk, hr, hc, hcc, ha⟩ := h
  have h0 := hk.cell (j := 0) rfl
  have h1 := hk.cell (j := 1) rfl
  have f0 := hk.frozen 0
  have f1 := hk.frozen 1
  have hlt := hk.lt
  by_cases hbad : r.bad = 0
  · rw [hbad] at h1
    by_cases hx0 : x = 0
    · subst hx0
      have he : r.fail 0 = r := by unfold RS.fail; rw [if_neg (by simp)]
      rw [he]
      clear hr ha hk hbad he
      go_enter Try.func53, Try.ntmps53
      go_wp2
      go_end0
      exact ⟨rfl, HR.out, Upd.refl _ _⟩
    · have he : r.fail x = ⟨[], x⟩ := by unfold RS.fail; rw [if_pos ⟨hbad, hx0⟩]
      have hb : ((x : Int) != 0) = true := by simp; omega
      rw [he] at hok ⊢
      have hkk := (hk.set 1 (.int .i64 (x : Int))).set 0 (.slice none 0 0)
      have hu : Upd (fun k => k = g) w ((w.setCell ⟨g, 1, none⟩ (.int .i64 (x : Int))).setCell ⟨g, 0, none⟩ (.slice none 0 0)) := ((Upd.refl (fun k => k = g) w).setCell (p := ⟨g, 1, none⟩) (.inl rfl) _).setCell (p := ⟨g, 0, none⟩) (.inl rfl) _
      have hfin : Kept (Rdr ((w.setCell ⟨g, 1, none⟩ (.int .i64 (x : Int))).setCell ⟨g, 0, none⟩ (.slice none 0 0)) S g ⟨[], x⟩) := ⟨⟨hok, hg, fun k hk => Nat.lt_of_lt_of_le (hS k hk) hu.size, none, 0, hkk, Rd.nil, by simp, by simp, fun _ h => by cases h⟩⟩
      have HU := kept hu
      clear hr ha hk hbad he hkk hu
      go_enter Try.func53, Try.ntmps53
      go_wp2
      go_end0
      exact ⟨rfl, hfin.out, HU.out⟩
  · have hb : ((r.bad : Int) == 0) = false := by simp; omega
    have he : r.fail x = r := by unfold RS.fail; rw [if_neg (fun h => hbad h.1)]
    rw [he]
    clear hr ha hk hbad he
    go_enter Try.func53, Try.ntmps53
    go_wp2
    go_end0
    exact ⟨rfl, HR.out, Upd.refl _ _⟩
theorem num_any (S : Nat → Prop) (g : Nat) (r : RS) (w : World) (h : Rdr w S g r) :
    Calls Try.prog 52 #[.pointer (some ⟨g, 0, none⟩)] w (Reads S g w (.int .u64 (r.numV : Int)) r.numR) := by
  have HR := kept h
  have C1 := kept (rerr_any S g r w h)
  obtain ⟨⟨o1, o2, o3, o4⟩, hg, hS, A, c, hk, hr, hc, hcc, ha⟩ := h
  have h0 := hk.cell (j := 0) rfl
  by_cases hbad : r.bad = 0
  · have C2 := kept (read_any A r.l.length c r.l 0 w rfl o1 hc o3 hr)
    rw [show readNum r.l 0 = readAt r.l 0 from readNum_nat r.l 0] at C2
    have hb : ((r.bad : Int) != 0) = false := by simp; omega
    have ev : r.numV = (readAt r.l 0).v := by unfold RS.numV; rw [if_pos hbad]
    by_cases he : (readAt r.l 0).err = 0
    · have er : r.numR = ⟨r.l.drop (readAt r.l 0).next, 0⟩ := by unfold RS.numR; rw [if_pos hbad, if_pos he]
      have C3 := kept (fun W hW => take_any S g r (readAt r.l 0).next W hW (read_next_le he) hbad)
      rw [ev, er]
      generalize readAt r.l 0 = o at *
      obtain ⟨ov, on, oe⟩ := o
      dsimp only at he C3 ⊢
      subst he
      clear hr ha hk hbad ev er
      go_enter Try.func52, Try.ntmps52
      go_wp2_with fail
      refine C1.out.mono ?_
      rintro e w' ⟨rfl, rfl⟩
      go_wp2_with fail
      refine C2.out.mono ?_
      rintro e w1 ⟨rfl, hb1⟩
      unfold outV
      go_wp2_with fail
      refine (C3.out _ (HR.out.next hb1)).mono ?_
      rintro e w' ⟨A', c', rfl, hc', hr', hR', hu⟩
      go_wp2
      go_ret
      exact ⟨rfl, hR', (Upd.of_below hb1).trans hu⟩
    · have er : r.numR = ⟨[], (readAt r.l 0).err⟩ := by unfold RS.numR; rw [if_pos hbad, if_neg he]
      have hlt := read_err_lt r.l 0
      have hv := read_v_err 0 he
      have C3 := kept (fun W hW => fail_any S g r (readAt r.l 0).err W hW (by omega))
      rw [show r.fail (readAt r.l 0).err = r.numR from by rw [er]; unfold RS.fail; rw [if_pos ⟨hbad, he⟩]] at C3
      rw [ev]
      generalize readAt r.l 0 = o at *
      obtain ⟨ov, on, oe⟩ := o
      dsimp only at he hlt hv C3 ⊢
      subst hv
      have hb2 : ((oe : Int) != 0) = true := by simp; omega
      clear hr ha hk hbad ev er
      go_enter Try.func52, Try.ntmps52
      go_wp2_with fail
      refine C1.out.mono ?_
      rintro e w' ⟨rfl, rfl⟩
      go_wp2_with fail
      refine C2.out.mono ?_
      rintro e w1 ⟨rfl, hb1⟩
      unfold outV
      go_wp2_with fail
      refine (C3.out _ (HR.out.next hb1)).mono ?_
      rintro e w' ⟨rfl, hR', hu⟩
      go_wp2
      go_ret
      exact ⟨rfl, hR', (Upd.of_below hb1).trans hu⟩
  · have hb : ((r.bad : Int) != 0) = true := by simp; omega
    have ev : r.numV = 0 := by unfold RS.numV; rw [if_neg hbad]
    have er : r.numR = r := by unfold RS.numR; rw [if_neg hbad]
    rw [ev, er]
    clear hr ha hk hbad ev er
    go_enter Try.func52, Try.ntmps52
    go_wp2_with fail
    refine C1.out.mono ?_
    rintro e w' ⟨rfl, rfl⟩
    go_wp2
    go_ret
    exact ⟨rfl, HR.out, Upd.refl _ _⟩
theorem Reads.then {S : Nat → Prop} {g : Nat} {w w1 : World} {v : Value} {r2 : RS} {e : Ending} {w' : World} (h : Upd (fun k => k = g) w w1) (k : Reads S g w1 v r2 e w') : Reads S g w v r2 e w' := ⟨k.1, k.2.1, h.trans k.2.2⟩
theorem upto_any (S : Nat → Prop) (g : Nat) (r : RS) (most : Nat) (w : World) (h : Rdr w S g r) :
    Calls Try.prog 74 #[.pointer (some ⟨g, 0, none⟩), .int .u64 (most : Int)] w (Reads S g w (.int .u64 (r.uptoV most : Int)) (r.uptoR most)) := by
  have C1 := kept (num_any S g r w h)
  have hv := r.numV_lt h.ok
  have C2 := kept (fun W h => fail_any S g r.numR 4 W h (by decide))
  unfold RS.uptoV RS.uptoR
  generalize r.numV = v at *
  generalize r.numR = r1 at *
  by_cases hlt : most < v
  · rw [if_pos hlt, if_pos hlt]
    go_enter Try.func74, Try.ntmps74
    go_wp2_with fail
    refine C1.out.mono ?_
    rintro e w1 ⟨rfl, hR, hu⟩
    go_wp2_with fail
    refine (C2.out _ hR).mono ?_
    rintro e w2 ⟨rfl, hR2, hu2⟩
    go_wp2
    go_ret
    exact ⟨rfl, hR2, hu.trans hu2⟩
  · rw [if_neg hlt, if_neg hlt]
    go_enter Try.func74, Try.ntmps74
    go_wp2_with fail
    refine C1.out.mono ?_
    rintro e w1 ⟨rfl, hR, hu⟩
    go_wp2
    go_ret
    exact ⟨rfl, hR, hu⟩
theorem byte_any (S : Nat → Prop) (g : Nat) (r : RS) (w : World) (h : Rdr w S g r) :
    Calls Try.prog 71 #[.pointer (some ⟨g, 0, none⟩)] w (Reads S g w (.int .u8 (r.byteV : Int)) r.byteR) := by
  have HR := kept h
  have C1 := kept (rerr_any S g r w h)
  have C2 := kept (left_any S g r w h)
  by_cases hbad : r.bad = 0
  · have hb : ((r.bad : Int) != 0) = false := by simp; omega
    rcases hl : r.l with _ | ⟨x, t⟩
    · have ev : r.byteV = 0 := by unfold RS.byteV; rw [if_pos hbad, hl]; rfl
      have er : r.byteR = r.fail 2 := by unfold RS.byteR RS.fail; rw [if_pos hbad, if_pos hl, if_pos ⟨hbad, by decide⟩]
      rw [ev, er]
      have C3 := kept (fail_any S g r 2 w h (by decide))
      rw [hl] at C2
      simp only [List.length_nil] at C2
      clear h hbad ev er hl
      go_enter Try.func71, Try.ntmps71
      go_wp2_with fail
      refine C1.out.mono ?_
      rintro e w' ⟨rfl, rfl⟩
      go_wp2_with fail
      refine C2.out.mono ?_
      rintro e w' ⟨rfl, rfl⟩
      go_wp2_with fail
      refine C3.out.mono ?_
      rintro e w2 ⟨rfl, hR2, hu2⟩
      go_wp2
      go_ret
      exact ⟨rfl, hR2, hu2⟩
    · have ev : r.byteV = x := by unfold RS.byteV; rw [if_pos hbad, hl]; rfl
      have er : r.byteR = ⟨r.l.drop 1, 0⟩ := by unfold RS.byteR; rw [if_pos hbad, if_neg (by rw [hl]; simp)]
      have hx : x < 256 := h.ok.1 x (by rw [hl]; exact List.mem_cons_self)
      have hpos : 0 < r.l.length := by rw [hl]; simp
      have hn0 : ((r.l.length : Int) == 0) = false := by rw [beq_eq_false_iff_ne]; omega
      have C3 := kept (take_any S g r 1 w h hpos hbad)
      have ht : r.l.take 1 = [x] := by rw [hl]; rfl
      rw [ht] at C3
      rw [ev, er]
      clear h hbad ev er hl ht
      go_enter Try.func71, Try.ntmps71
      go_wp2_with fail
      refine C1.out.mono ?_
      rintro e w' ⟨rfl, rfl⟩
      go_wp2_with fail
      refine C2.out.mono ?_
      rintro e w' ⟨rfl, rfl⟩
      go_wp2_with fail
      refine C3.out.mono ?_
      rintro e w2 ⟨A', c', rfl, hc', hr', hR2, hu2⟩
      obtain ⟨b, o, rfl, hbb, hcell⟩ := hr'.at_ (k := 0) (u := .int .u8 (x : Int)) rfl
      simp only [Nat.add_zero] at hcell
      clear hr'
      go_wp2
      go_ret
      exact ⟨rfl, hR2, hu2⟩
  · have hb : ((r.bad : Int) != 0) = true := by simp; omega
    have ev : r.byteV = 0 := by unfold RS.byteV; rw [if_neg hbad]
    have er : r.byteR = r := by unfold RS.byteR; rw [if_neg hbad]
    rw [ev, er]
    clear h hbad ev er
    go_enter Try.func71, Try.ntmps71
    go_wp2_with fail
    refine C1.out.mono ?_
    rintro e w' ⟨rfl, rfl⟩
    go_wp2
    go_ret
    exact ⟨rfl, HR.out, Upd.refl _ _⟩
theorem end_any (S : Nat → Prop) (g : Nat) (r : RS) (w : World) (h : Rdr w S g r) :
    Calls Try.prog 56 #[.pointer (some ⟨g, 0, none⟩)] w (Reads S g w (.int .i64 (r.endR.bad : Int)) r.endR) := by
  have HR := kept h
  have C1 := kept (left_any S g r w h)
  have C2 := kept (fail_any S g r 4 w h (by decide))
  have C3 := kept (fun W h => rerr_any S g r.endR W h)
  by_cases hlt : 0 < r.l.length
  · have er : r.fail 4 = r.endR := by unfold RS.endR; rw [if_pos hlt]
    rw [er] at C2
    generalize r.endR = r1 at *
    clear er h
    go_enter Try.func56, Try.ntmps56
    go_wp2_with fail
    refine C1.out.mono ?_
    rintro e w1 ⟨rfl, rfl⟩
    go_wp2_with fail
    refine C2.out.mono ?_
    rintro e w2 ⟨rfl, hR2, hu2⟩
    go_wp2_with fail
    refine (C3.out _ hR2).mono ?_
    rintro e w3 ⟨rfl, rfl⟩
    go_wp2
    go_ret
    exact ⟨rfl, hR2, hu2⟩
  · have er : r.endR = r := by unfold RS.endR; rw [if_neg hlt]
    rw [er] at C3 ⊢
    clear er h
    go_enter Try.func56, Try.ntmps56
    go_wp2_with fail
    refine C1.out.mono ?_
    rintro e w1 ⟨rfl, rfl⟩
    go_wp2_with fail
    refine (C3.out _ HR.out).mono ?_
    rintro e w3 ⟨rfl, rfl⟩
    go_wp2
    go_ret
    exact ⟨rfl, HR.out, Upd.refl _ _⟩
end Go.Proofs.Ytmfclekjojninaa.Pack
