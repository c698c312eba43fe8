/- The walks of layer 4: a reader's calls. -/
import Derived.Test.YtdlghabpnpbebaaDoorHold
import Derived.Test.YtdlghabpnpbebaaDoorPackMath
import Derived.Test.YtdlghabpnpbebaaDoorNumWalksC
import Derived.Lib.MinMax
import Derived.Deep.RegionHeld3
namespace Go.Proofs.YtdlghabpnpbebaaDoor.Pack
open Go.RowKit Go.Proofs.YtdlghabpnpbebaaDoor.Mem Go.Proofs.YtdlghabpnpbebaaDoor.Num

/-- a reader of r lies at block g, on the ground S -/
def Rdr (w : World) (S : Nat → Prop) (g : Nat) (r : RS) : Prop :=
  r.Ok ∧ S g ∧ (∀ k, S k → k < w.heap.size) ∧ ∃ A c, Blk w g [.slice A r.l.length c, .int .i64 (r.bad : Int)] 119 ∧ Rd w w.heap.size A (BB r.l) ∧ r.l.length ≤ c ∧ c ≤ 9223372036854775807 ∧ (∀ x, A = some x → S x.block ∧ x.block ≠ g)
/-- what a call on it gives: v, a reader of r' behind it; nothing but its own block turned -/
def Reads (S : Nat → Prop) (g : Nat) (w : World) (v : Value) (r' : RS) (e : Ending) (w' : World) : Prop := e = .returned v ∧ Rdr w' S g r' ∧ Upd (fun k => k = g) w w'
theorem Rdr.upd {T S : Nat → Prop} {w w' : World} {g : Nat} {r : RS} (h : Rdr w S g r) (hu : Upd T w w') (hd : ∀ k, S k → ¬ T k) : Rdr w' S g r := by
  obtain ⟨ho, hg, hS, A, c, hk, hr, hc, hcc, ha⟩ := h
  exact ⟨ho, hg, fun k hk => Nat.lt_of_lt_of_le (hS k hk) hu.size, A, c, hk.upd hu (hd g hg), (hr.upd hu (Nat.le_refl _) (fun x hx => hd _ (ha x hx).1)).more hu.size, hc, hcc, ha⟩
theorem Rdr.next {S : Nat → Prop} {w w' : World} {g : Nat} {r : RS} (h : Rdr w S g r) (hb : Below w.heap.size w w') : Rdr w' S g r := h.upd (Upd.of_below (S := fun _ => False) hb) fun _ _ e => e
theorem Rdr.ok {S : Nat → Prop} {w : World} {g : Nat} {r : RS} (h : Rdr w S g r) : r.Ok := h.1
theorem rerr_any (S : Nat → Prop) (g : Nat) (r : RS) (w : World) (h : Rdr w S g r) :
    Calls Tryd.prog 74 #[.pointer (some ⟨g, 0, none⟩)] w fun e w' => e = .returned (.int .i64 (r.bad : Int)) ∧ w = w' := by
  obtain ⟨ho, hg, hS, A, c, hk, hr, hc, hcc, ha⟩ := h
  have h1 := hk.cell (j := 1) rfl
  clear hr ha
  go_enter Tryd.func74, Tryd.ntmps74
  go_wp2
  go_ret
  exact ⟨rfl, rfl⟩
theorem rleft_any (S : Nat → Prop) (g : Nat) (r : RS) (w : World) (h : Rdr w S g r) :
    Calls Tryd.prog 78 #[.pointer (some ⟨g, 0, none⟩)] w fun e w' => e = .returned (.int .i64 (r.l.length : Int)) ∧ w = w' := by
  obtain ⟨ho, hg, hS, A, c, hk, hr, hc, hcc, ha⟩ := h
  have h0 := hk.cell (j := 0) rfl
  clear hr ha
  go_enter Tryd.func78, Tryd.ntmps78
  go_wp2
  go_ret
  exact ⟨rfl, rfl⟩
theorem left_any (S : Nat → Prop) (g : Nat) (r : RS) (w : World) (h : Rdr w S g r) :
    Calls Tryd.prog 63 #[.pointer (some ⟨g, 0, none⟩)] w fun e w' => e = .returned (.int .i64 (r.l.length : Int)) ∧ w = w' := by
  have HC := kept (rleft_any S g r w h)
  obtain ⟨ho, hg, hS, A, c, hk, hr, hc, hcc, ha⟩ := h
  have h0 := hk.cell (j := 0) rfl
  clear hr ha
  go_enter Tryd.func63, Tryd.ntmps63
  go_wp2_with fail
  refine HC.out.mono ?_
  rintro e w' ⟨rfl, rfl⟩
  go_wp2
  go_ret
  exact ⟨rfl, rfl⟩
/-- bytes taken off a reader: a slice of them -/
theorem take_any (S : Nat → Prop) (g : Nat) (r : RS) (n : Nat) (w : World) (h : Rdr w S g r) (hn : n ≤ r.l.length) (hb : r.bad = 0) :
    Calls Tryd.prog 77 #[.pointer (some ⟨g, 0, none⟩), .int .i64 (n : Int)] w fun e w' => ∃ A c, e = .returned (.slice A n c) ∧ n ≤ c ∧ Rd w' w'.heap.size A (BB (r.l.take n)) ∧ Rdr w' S g ⟨r.l.drop n, 0⟩ ∧ Upd (fun k => k = g) w w' := by
  obtain ⟨⟨o1, o2, o3, o4⟩, hg, hS, A, c, hk, hr, hc, hcc, ha⟩ := h
  rw [hb] at hk
  have h0 := hk.cell (j := 0) rfl
  have h1 := hk.cell (j := 1) rfl
  have f0 := hk.frozen 0
  have hlt := hk.lt
  have hrt := hr.take n
  rw [BB_take] at hrt
  have hrt := kept hrt
  have hrd := kept (hr.drop n c r.l.length hn hc (BB_length _))
  have hdl : (r.l.drop n).length = r.l.length - n := List.length_drop
  generalize hN : r.l.length = N at *
  have HN := kept hN
  have KK := kept hk
  have HA := kept ha
  have HDL := kept hdl
  clear hr ha hk hN hdl
  have hfin : Kept (∀ (w' : World) (A' : Option Addr) (c' : Nat), Rd w w.heap.size A' (BB (r.l.drop n)) → N - n ≤ c' → c' ≤ 9223372036854775807 → (∀ x, A' = some x → S x.block ∧ x.block ≠ g) → w' = w.setCell ⟨g, 0, none⟩ (.slice A' (N - n) c') →
      Rd w' w'.heap.size A (BB (r.l.take n)) ∧ Rdr w' S g ⟨r.l.drop n, 0⟩ ∧ Upd (fun k => k = g) w w') := ⟨by
    rintro w' A' c' h1 h2 h3 h4 rfl
    have hu : Upd (fun k => k = g) w (w.setCell ⟨g, 0, none⟩ (.slice A' (N - n) c')) := (Upd.refl (fun k => k = g) w).setCell (p := ⟨g, 0, none⟩) (.inl rfl) _
    have hkk := KK.out.set 0 (.slice A' (N - n) c')
    refine ⟨(hrt.out.upd hu (Nat.le_refl _) (fun x hx => (HA.out x hx).2)).more hu.size, ⟨⟨all_drop' o1 n, fun e => absurd rfl e, ?_, zlt⟩, hg, fun k hk => Nat.lt_of_lt_of_le (hS k hk) hu.size, A', c', ?_, (h1.upd hu (Nat.le_refl _) (fun x hx => (h4 x hx).2)).more hu.size, ?_, h3, h4⟩, hu⟩
    · rw [HDL.out]; omega
    · simp only [HDL.out]; exact hkk
    · rw [HDL.out]; exact h2⟩
  by_cases hcn : c = n
  · obtain rfl : c = n := hcn
    obtain rfl : N = c := by omega
    go_enter Tryd.func77, Tryd.ntmps77
    go_wp2
    go_ret
    have h := hrd.out
    simp only [if_true, BB_drop] at h
    obtain ⟨x1, x2, x3⟩ := hfin.out _ A 0 h (by omega) (by omega) HA.out (by rw [Nat.sub_self])
    exact ⟨A, N, rfl, Nat.le_refl _, x1, x2, x3⟩
  · go_enter Tryd.func77, Tryd.ntmps77
    go_wp2
    go_ret
    have h := hrd.out
    rw [if_neg hcn, BB_drop] at h
    obtain ⟨x1, x2, x3⟩ := hfin.out _ (A.map (·.add n)) (c - n) h (by omega) (by omega) (fun x hx => by
      rcases A with _ | ⟨b, o, sp⟩
      · cases hx
      · have hx : (⟨b, o, sp⟩ : Addr).add n = x := Option.some.inj hx
        have h2 := HA.out _ rfl
        have hbl : x.block = b := by rw [← hx]; unfold Addr.add; split <;> rfl
        rw [hbl]; exact h2) rfl
    exact ⟨A, c, rfl, by omega, x1, x2, x3⟩
theorem fail_any (S : Nat → Prop) (g : Nat) (r : RS) (x : Nat) (w : World) (h : Rdr w S g r) (hx : x < 9223372036854775807) :
    Calls Tryd.prog 76 #[.pointer (some ⟨g, 0, none⟩), .int .i64 (x : Int)] w (Reads S g w (.tuple #[]) (r.fail x)) := by
  have hok := h.ok.fail hx
  have HR := kept h
  obtain ⟨⟨o1, o2, o3, o4⟩, hg, hS, A, c, hk, hr, hc, hcc, ha⟩ := h
  have h0 := hk.cell (j := 0) rfl
  have h1 := hk.cell (j := 1) rfl
  have f0 := hk.frozen 0
  have f1 := hk.frozen 1
  have hlt := hk.lt
  by_cases hbad : r.bad = 0
  · rw [hbad] at h1
    by_cases hx0 : x = 0
    · subst hx0
      have he : r.fail 0 = r := by unfold RS.fail; rw [if_neg (by simp)]
      rw [he]
      clear hr ha hk hbad he
      go_enter Tryd.func76, Tryd.ntmps76
      go_wp2
      go_end0
      exact ⟨rfl, HR.out, Upd.refl _ _⟩
    · have he : r.fail x = ⟨[], x⟩ := by unfold RS.fail; rw [if_pos ⟨hbad, hx0⟩]
      have hb : ((x : Int) != 0) = true := by simp; omega
      rw [he] at hok ⊢
      have hkk := (hk.set 1 (.int .i64 (x : Int))).set 0 (.slice none 0 0)
      have hu : Upd (fun k => k = g) w ((w.setCell ⟨g, 1, none⟩ (.int .i64 (x : Int))).setCell ⟨g, 0, none⟩ (.slice none 0 0)) := ((Upd.refl (fun k => k = g) w).setCell (p := ⟨g, 1, none⟩) (.inl rfl) _).setCell (p := ⟨g, 0, none⟩) (.inl rfl) _
      have hfin : Kept (Rdr ((w.setCell ⟨g, 1, none⟩ (.int .i64 (x : Int))).setCell ⟨g, 0, none⟩ (.slice none 0 0)) S g ⟨[], x⟩) := ⟨⟨hok, hg, fun k hk => Nat.lt_of_lt_of_le (hS k hk) hu.size, none, 0, hkk, Rd.nil, by simp, by simp, fun _ h => by cases h⟩⟩
      have HU := kept hu
      clear hr ha hk hbad he hkk hu
      go_enter Tryd.func76, Tryd.ntmps76
      go_wp2
      go_end0
      exact ⟨rfl, hfin.out, HU.out⟩
  · have hb : ((r.bad : Int) == 0) = false := by simp; omega
    have he : r.fail x = r := by unfold RS.fail; rw [if_neg (fun h => hbad h.1)]
    rw [he]
    clear hr ha hk hbad he
    go_enter Tryd.func76, Tryd.ntmps76
    go_wp2
    go_end0
    exact ⟨rfl, HR.out, Upd.refl _ _⟩
theorem num_any (S : Nat → Prop) (g : Nat) (r : RS) (w : World) (h : Rdr w S g r) :
    Calls Tryd.prog 62 #[.pointer (some ⟨g, 0, none⟩)] w (Reads S g w (.int .u64 (r.numV : Int)) r.numR) := by
  have HR := kept h
  have C1 := kept (rerr_any S g r w h)
  obtain ⟨⟨o1, o2, o3, o4⟩, hg, hS, A, c, hk, hr, hc, hcc, ha⟩ := h
  have h0 := hk.cell (j := 0) rfl
  by_cases hbad : r.bad = 0
  · have C2 := kept (read_any A r.l.length c r.l 0 w rfl o1 hc o3 hr)
    rw [show readNum r.l 0 = readAt r.l 0 from readNum_nat r.l 0] at C2
    have hb : ((r.bad : Int) != 0) = false := by simp; omega
    have ev : r.numV = (readAt r.l 0).v := by unfold RS.numV; rw [if_pos hbad]
    by_cases he : (readAt r.l 0).err = 0
    · have er : r.numR = ⟨r.l.drop (readAt r.l 0).next, 0⟩ := by unfold RS.numR; rw [if_pos hbad, if_pos he]
      have C3 := kept (fun W hW => take_any S g r (readAt r.l 0).next W hW (read_next_le he) hbad)
      rw [ev, er]
      generalize readAt r.l 0 = o at *
      obtain ⟨ov, on, oe⟩ := o
      dsimp only at he C3 ⊢
      subst he
      clear hr ha hk hbad ev er
      go_enter Tryd.func62, Tryd.ntmps62
      go_wp2_with fail
      refine C1.out.mono ?_
      rintro e w' ⟨rfl, rfl⟩
      go_wp2_with fail
      refine C2.out.mono ?_
      rintro e w1 ⟨rfl, hb1⟩
      unfold outV
      go_wp2_with fail
      refine (C3.out _ (HR.out.next hb1)).mono ?_
      rintro e w' ⟨A', c', rfl, hc', hr', hR', hu⟩
      go_wp2
      go_ret
      exact ⟨rfl, hR', (Upd.of_below hb1).trans hu⟩
    · have er : r.numR = ⟨[], (readAt r.l 0).err⟩ := by unfold RS.numR; rw [if_pos hbad, if_neg he]
      have hlt := read_err_lt r.l 0
      have hv := read_v_err 0 he
      have C3 := kept (fun W hW => fail_any S g r (readAt r.l 0).err W hW (by omega))
      rw [show r.fail (readAt r.l 0).err = r.numR from by rw [er]; unfold RS.fail; rw [if_pos ⟨hbad, he⟩]] at C3
      rw [ev]
      generalize readAt r.l 0 = o at *
      obtain ⟨ov, on, oe⟩ := o
      dsimp only at he hlt hv C3 ⊢
      subst hv
      have hb2 : ((oe : Int) != 0) = true := by simp; omega
      clear hr ha hk hbad ev er
      go_enter Tryd.func62, Tryd.ntmps62
      go_wp2_with fail
      refine C1.out.mono ?_
      rintro e w' ⟨rfl, rfl⟩
      go_wp2_with fail
      refine C2.out.mono ?_
      rintro e w1 ⟨rfl, hb1⟩
      unfold outV
      go_wp2_with fail
      refine (C3.out _ (HR.out.next hb1)).mono ?_
      rintro e w' ⟨rfl, hR', hu⟩
      go_wp2
      go_ret
      exact ⟨rfl, hR', (Upd.of_below hb1).trans hu⟩
  · have hb : ((r.bad : Int) != 0) = true := by simp; omega
    have ev : r.numV = 0 := by unfold RS.numV; rw [if_neg hbad]
    have er : r.numR = r := by unfold RS.numR; rw [if_neg hbad]
    rw [ev, er]
    clear hr ha hk hbad ev er
    go_enter Tryd.func62, Tryd.ntmps62
    go_wp2_with fail
    refine C1.out.mono ?_
    rintro e w' ⟨rfl, rfl⟩
    go_wp2
    go_ret
    exact ⟨rfl, HR.out, Upd.refl _ _⟩
theorem Reads.then {S : Nat → Prop} {g : Nat} {w w1 : World} {v : Value} {r2 : RS} {e : Ending} {w' : World} (h : Upd (fun k => k = g) w w1) (k : Reads S g w1 v r2 e w') : Reads S g w v r2 e w' := ⟨k.1, k.2.1, h.trans k.2.2⟩
end Go.Proofs.YtdlghabpnpbebaaDoor.Pack
