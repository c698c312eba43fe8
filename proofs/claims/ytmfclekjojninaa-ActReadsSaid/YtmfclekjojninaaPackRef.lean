/- The walks of layer 4: the document's reader. -/
import Derived.Test.YtmfclekjojninaaPackReadB
import Derived.Test.YtmfclekjojninaaNumWalksD
import Derived.Deep.QuietTactic
import Derived.BigQuiet
namespace Go.Proofs.Ytmfclekjojninaa.Pack
open Go.RowKit Go.Proofs.Ytmfclekjojninaa.Mem Go.Proofs.Ytmfclekjojninaa.Num

theorem getD_drop (b : List Nat) (k j : Nat) : (b.drop k).getD j 0 = b.getD (k + j) 0 := by
  simp [List.getD, List.getElem?_drop]
/-- a number read at a place is one read of what is behind it -/
theorem read_drop (b : List Nat) (k : Nat) (hk : k ≤ b.length) : readAt b k = ⟨(readAt (b.drop k) 0).v, if (readAt (b.drop k) 0).err = 0 then k + (readAt (b.drop k) 0).next else 0, (readAt (b.drop k) 0).err⟩ := by
  have hl : (b.drop k).length = b.length - k := List.length_drop
  have hf : badForm b k = badForm (b.drop k) 0 := by
    unfold badForm
    rw [getD_drop, getD_drop, hl, Nat.add_zero, Nat.zero_add]
    rw [show decide (k + 1 < b.length) = decide (1 < b.length - k) from decide_eq_decide.2 (by omega)]
    rfl
  have hv : readV b k = readV (b.drop k) 0 := by
    unfold readV
    rw [getD_drop, List.drop_drop, Nat.add_zero]
    rfl
  have hg : (b.drop k).getD 0 0 = b.getD k 0 := by rw [getD_drop]; rfl
  by_cases h1 : k = b.length
  · have e2 : readAt (b.drop k) 0 = ⟨0, 0, 2⟩ := by unfold readAt; rw [if_neg (by omega), if_pos (by omega)]
    rw [e2]; unfold readAt; rw [if_neg (by omega), if_pos h1]; rfl
  · by_cases h2 : badForm (b.drop k) 0 = true
    · have e2 : readAt (b.drop k) 0 = ⟨0, 0, 4⟩ := by unfold readAt; rw [if_neg (by omega), if_neg (by omega), if_pos h2]
      rw [e2]; unfold readAt; rw [if_neg (by omega), if_neg h1, hf, if_pos h2]; rfl
    · by_cases h3 : b.length < k + 1 + b.getD k 0
      · have e2 : readAt (b.drop k) 0 = ⟨0, 0, 2⟩ := by unfold readAt; rw [if_neg (by omega), if_neg (by omega), if_neg h2, if_pos (by rw [hg]; omega)]
        rw [e2]; unfold readAt; rw [if_neg (by omega), if_neg h1, hf, if_neg h2, if_pos h3]; rfl
      · have e2 : readAt (b.drop k) 0 = ⟨readV (b.drop k) 0, 1 + b.getD k 0, 0⟩ := by unfold readAt; rw [if_neg (by omega), if_neg (by omega), if_neg h2, if_neg (by rw [hg]; omega), hg, Nat.zero_add]
        rw [e2]; unfold readAt; rw [if_neg (by omega), if_neg h1, hf, if_neg h2, if_neg h3, hv, if_pos rfl, Nat.add_assoc]
/-- the document's reader of r at block g: all its bytes, how far it is, the first error -/
def RRdr (w : World) (S : Nat → Prop) (g : Nat) (r : RS) : Prop :=
  r.Ok ∧ S g ∧ (∀ k, S k → k < w.heap.size) ∧ ∃ (A : Option Addr) (b : List Nat) (c at_ : Nat), Blk w g [.slice A b.length c, .int .i64 (at_ : Int), .int .i64 (r.bad : Int)] 99 ∧ Rd w w.heap.size A (BB b) ∧ AllB b ∧ b.length ≤ c ∧ c ≤ 9223372036854775807 ∧ b.length ≤ 140737488355328 ∧
    at_ ≤ b.length ∧ (r.bad = 0 → r.l = b.drop at_) ∧ (∀ x, A = some x → BB b ≠ [] → S x.block ∧ x.block ≠ g)
def RReads (S : Nat → Prop) (g : Nat) (w : World) (v : Value) (r' : RS) (e : Ending) (w' : World) : Prop := e = .returned v ∧ RRdr w' S g r' ∧ Upd (fun k => k = g) w w'
theorem RRdr.upd {T S : Nat → Prop} {w w' : World} {g : Nat} {r : RS} (h : RRdr w S g r) (hu : Upd T w w') (hd : ∀ k, S k → ¬ T k) : RRdr w' S g r := by
  obtain ⟨ho, hg, hS, A, b, c, at_, hk, hr, hb, hc, hcc, hbl, hat, he, ha⟩ := h
  exact ⟨ho, hg, fun k hk => Nat.lt_of_lt_of_le (hS k hk) hu.size, A, b, c, at_, hk.upd hu (hd g hg), (hr.updN hu (Nat.le_refl _) (fun x hx hn => hd _ (ha x hx hn).1)).more hu.size, hb, hc, hcc, hbl, hat, he, ha⟩
theorem RRdr.next {S : Nat → Prop} {w w' : World} {g : Nat} {r : RS} (h : RRdr w S g r) (hb : Below w.heap.size w w') : RRdr w' S g r := h.upd (Upd.of_below (S := fun _ => False) hb) fun _ _ e => e
theorem RRdr.ok {S : Nat → Prop} {w : World} {g : Nat} {r : RS} (h : RRdr w S g r) : r.Ok := h.1
theorem xfail_any (S : Nat → Prop) (g : Nat) (r : RS) (x : Nat) (w : World) (h : RRdr w S g r) (hx : x < 9223372036854775807) (hx0 : x ≠ 0) :
    Calls Try.prog 58 #[.pointer (some ⟨g, 0, none⟩), .int .i64 (x : Int)] w (RReads S g w (.tuple #[]) (r.fail x)) := by
  have hok := h.ok.fail hx
  have HR := kept h
  obtain ⟨⟨o1, o2, o3, o4⟩, hg, hS, A, b, c, at_, hk, hr, hb, hc, hcc, hbl, hat, he, ha⟩ := h
  have h2 := hk.cell (j := 2) rfl
  have f2 := hk.frozen 2
  have hlt := hk.lt
  by_cases hbad : r.bad = 0
  · have ef : r.fail x = ⟨[], x⟩ := by unfold RS.fail; rw [if_pos ⟨hbad, hx0⟩]
    rw [hbad] at h2
    rw [ef] at hok ⊢
    have hkk := hk.set 2 (.int .i64 (x : Int))
    have hu : Upd (fun k => k = g) w (w.setCell ⟨g, 2, none⟩ (.int .i64 (x : Int))) := (Upd.refl (fun k => k = g) w).setCell (p := ⟨g, 2, none⟩) (.inl rfl) _
    have hfin : Kept (RRdr (w.setCell ⟨g, 2, none⟩ (.int .i64 (x : Int))) S g ⟨[], x⟩) := ⟨⟨hok, hg, fun k hk => Nat.lt_of_lt_of_le (hS k hk) hu.size, A, b, c, at_, hkk, (hr.updN hu (Nat.le_refl _) (fun y hy hn => (ha y hy hn).2)).more hu.size, hb, hc, hcc, hbl, hat, fun e => absurd e hx0, ha⟩⟩
    have HU := kept hu
    clear hr ha hk hbad hkk hu he ef
    go_enter Try.func58, Try.ntmps58
    go_wp2
    go_end0
    exact ⟨rfl, hfin.out, HU.out⟩
  · have hb : ((r.bad : Int) == 0) = false := by rw [beq_eq_false_iff_ne]; omega
    have ef : r.fail x = r := by unfold RS.fail; rw [if_neg (fun h => hbad h.1)]
    rw [ef]
    clear hr ha hk hbad he ef
    go_enter Try.func58, Try.ntmps58
    go_wp2
    go_end0
    exact ⟨rfl, HR.out, Upd.refl _ _⟩
theorem xleft_any (S : Nat → Prop) (g : Nat) (r : RS) (w : World) (h : RRdr w S g r) :
    Calls Try.prog 81 #[.pointer (some ⟨g, 0, none⟩)] w fun e w' => e = .returned (.int .i64 (r.l.length : Int)) ∧ ∃ q, w' = w.drewN q := by
  obtain ⟨⟨o1, o2, o3, o4⟩, hg, hS, A, b, c, at_, hk, hr, hb, hc, hcc, hbl, hat, he, ha⟩ := h
  have h0 := hk.cell (j := 0) rfl
  have h1 := hk.cell (j := 1) rfl
  have h2 := hk.cell (j := 2) rfl
  have hlt := hk.lt
  by_cases hbad : r.bad = 0
  · have hbb : ((r.bad : Int) != 0) = false := by simp; omega
    have HL : Kept ((b.length : Int) - at_ = (r.l.length : Int)) := ⟨by rw [he hbad, List.length_drop]; omega⟩
    clear hr ha hk hbad he
    go_enter Try.func81, Try.ntmps81
    go_wp2
    go_quiet (fail)
    go_wp2
    go_ret
    exact ⟨ret_num HL.out, _, rfl⟩
  · have hbb : ((r.bad : Int) != 0) = true := by simp; omega
    have HL : Kept (r.l = []) := ⟨o2 hbad⟩
    clear hr ha hk hbad he o2
    go_enter Try.func81, Try.ntmps81
    go_wp2
    go_ret
    exact ⟨ret_num (by rw [HL.out]; rfl), 0, rfl⟩
theorem xnum_any (S : Nat → Prop) (g : Nat) (r : RS) (w : World) (h : RRdr w S g r) :
    Calls Try.prog 57 #[.pointer (some ⟨g, 0, none⟩)] w (RReads S g w (.int .u64 (r.numV : Int)) r.numR) := by
  have HR := kept h
  have hokn := h.ok.num
  obtain ⟨⟨o1, o2, o3, o4⟩, hg, hS, A, b, c, at_, hk, hr, hb, hc, hcc, hbl, hat, he, ha⟩ := h
  have h0 := hk.cell (j := 0) rfl
  have h1 := hk.cell (j := 1) rfl
  have h2 := hk.cell (j := 2) rfl
  have f1 := hk.frozen 1
  have hlt := hk.lt
  by_cases hbad : r.bad = 0
  · have C2 := kept (fun q => rread_any A b.length c b at_ (w.drewN q) rfl hb hc (by omega) (hr.drewN q))
    rw [show readNum b at_ = readAt b at_ from readNum_nat b at_, read_drop b at_ hat, ← he hbad] at C2
    have hbb : ((r.bad : Int) != 0) = false := by simp; omega
    have ev : r.numV = (readAt r.l 0).v := by unfold RS.numV; rw [if_pos hbad]
    by_cases he0 : (readAt r.l 0).err = 0
    · have er : r.numR = ⟨r.l.drop (readAt r.l 0).next, 0⟩ := by unfold RS.numR; rw [if_pos hbad, if_pos he0]
      have hnx := read_next_le he0
      rw [ev]
      rw [he0, if_pos rfl] at C2
      have hfin : Kept (∀ q, RRdr ((w.drewN q).setCell ⟨g, 1, none⟩ (.int .i64 ((at_ + (readAt r.l 0).next : Nat) : Int))) S g r.numR ∧ Upd (fun k => k = g) w ((w.drewN q).setCell ⟨g, 1, none⟩ (.int .i64 ((at_ + (readAt r.l 0).next : Nat) : Int)))) := ⟨fun q => by
        have hu : Upd (fun k => k = g) w ((w.drewN q).setCell ⟨g, 1, none⟩ (.int .i64 ((at_ + (readAt r.l 0).next : Nat) : Int))) := ((Upd.refl (fun k => k = g) w).drewN q).setCell (p := ⟨g, 1, none⟩) (.inl rfl) _
        refine ⟨⟨hokn, hg, fun k hk => Nat.lt_of_lt_of_le (hS k hk) hu.size, A, b, c, at_ + (readAt r.l 0).next, ?_, (hr.updN hu (Nat.le_refl _) (fun y hy hn => (ha y hy hn).2)).more hu.size, hb, hc, hcc, hbl, ?_, fun _ => ?_, ha⟩, hu⟩
        · have := (hk.drewN q).set 1 (.int .i64 ((at_ + (readAt r.l 0).next : Nat) : Int))
          rw [hbad] at this
          rw [er]
          exact this
        · have := he hbad
          rw [this, List.length_drop] at hnx
          rw [← this] at hnx
          omega
        · rw [er, he hbad, List.drop_drop]⟩
      generalize r.numR = r1 at *
      generalize readAt r.l 0 = o at *
      obtain ⟨ov, on, oe⟩ := o
      dsimp only at he0 hnx hfin C2 ⊢
      subst he0
      clear hr ha hk hbad ev er he
      go_enter Try.func57, Try.ntmps57
      go_wp2_with fail
      go_quiet ((go_at_call 76; exact Calls.quiet_of_same ((C2.out _).mono fun e w' ⟨h1, h2⟩ => ⟨h1, h2.symm⟩)))
      go_wp2
      go_ret
      exact ⟨rfl, (hfin.out _).1, (hfin.out _).2⟩
    · have er : r.numR = r.fail (readAt r.l 0).err := by unfold RS.numR RS.fail; rw [if_pos hbad, if_neg he0, if_pos ⟨hbad, he0⟩]
      have hlt2 := read_err_lt r.l 0
      have hv := read_v_err 0 he0
      have C3 := kept (fun W hW => xfail_any S g r (readAt r.l 0).err W hW (by omega) he0)
      rw [← er] at C3
      rw [ev]
      rw [if_neg he0] at C2
      generalize r.numR = r1 at *
      generalize readAt r.l 0 = o at *
      obtain ⟨ov, on, oe⟩ := o
      dsimp only at he0 hv hlt2 C2 C3 ⊢
      subst hv
      have hb2 : ((oe : Int) != 0) = true := by simp; omega
      clear hr ha hk hbad ev er he
      go_enter Try.func57, Try.ntmps57
      go_wp2_with fail
      go_quiet ((go_at_call 76; exact Calls.quiet_of_same ((C2.out _).mono fun e w' ⟨h1, h2⟩ => ⟨h1, h2.symm⟩)))
      go_wp2_with fail
      refine (C3.out _ (HR.out.next (below_draw _ _ _))).mono ?_
      rintro e w2 ⟨rfl, hR2, hu2⟩
      go_wp2
      go_ret
      exact ⟨rfl, hR2, ((Upd.refl _ w).drewN _).trans hu2⟩
  · have hbb : ((r.bad : Int) != 0) = true := by simp; omega
    have ev : r.numV = 0 := by unfold RS.numV; rw [if_neg hbad]
    have er : r.numR = r := by unfold RS.numR; rw [if_neg hbad]
    rw [ev, er]
    clear hr ha hk hbad ev er he
    go_enter Try.func57, Try.ntmps57
    go_wp2
    go_ret
    exact ⟨rfl, HR.out, Upd.refl _ _⟩
theorem xupto_any (S : Nat → Prop) (g : Nat) (r : RS) (most : Nat) (w : World) (h : RRdr w S g r) :
    Calls Try.prog 80 #[.pointer (some ⟨g, 0, none⟩), .int .u64 (most : Int)] w (RReads S g w (.int .u64 (r.uptoV most : Int)) (r.uptoR most)) := by
  have C1 := kept (xnum_any S g r w h)
  have hv := r.numV_lt h.ok
  have C2 := kept (fun W h => xfail_any S g r.numR 4 W h (by decide) (by decide))
  unfold RS.uptoV RS.uptoR
  generalize r.numV = v at *
  generalize r.numR = r1 at *
  by_cases hlt : most < v
  · rw [if_pos hlt, if_pos hlt]
    go_enter Try.func80, Try.ntmps80
    go_wp2_with fail
    refine C1.out.mono ?_
    rintro e w1 ⟨rfl, hR, hu⟩
    go_wp2_with fail
    refine (C2.out _ hR).mono ?_
    rintro e w2 ⟨rfl, hR2, hu2⟩
    go_wp2
    go_ret
    exact ⟨rfl, hR2, hu.trans hu2⟩
  · rw [if_neg hlt, if_neg hlt]
    go_enter Try.func80, Try.ntmps80
    go_wp2_with fail
    refine C1.out.mono ?_
    rintro e w1 ⟨rfl, hR, hu⟩
    go_wp2
    go_ret
    exact ⟨rfl, hR, hu⟩
theorem xbyte_any (S : Nat → Prop) (g : Nat) (r : RS) (w : World) (h : RRdr w S g r) :
    Calls Try.prog 77 #[.pointer (some ⟨g, 0, none⟩)] w (RReads S g w (.int .u8 (r.byteV : Int)) r.byteR) := by
  have HR := kept h
  have hokb := h.ok.byte
  obtain ⟨⟨o1, o2, o3, o4⟩, hg, hS, A, b, c, at_, hk, hr, hb, hc, hcc, hbl, hat, he, ha⟩ := h
  have h0 := hk.cell (j := 0) rfl
  have h1 := hk.cell (j := 1) rfl
  have h2 := hk.cell (j := 2) rfl
  have f1 := hk.frozen 1
  have hlt := hk.lt
  by_cases hbad : r.bad = 0
  · have hbb : ((r.bad : Int) != 0) = false := by simp; omega
    rcases hl : r.l with _ | ⟨x, t⟩
    · have hatb : at_ = b.length := by
        have := he hbad
        rw [hl] at this
        have := congrArg List.length this
        rw [List.length_drop, List.length_nil] at this
        omega
      have ev : r.byteV = 0 := by unfold RS.byteV; rw [if_pos hbad, hl]; rfl
      have er : r.byteR = r.fail 2 := by unfold RS.byteR RS.fail; rw [if_pos hbad, if_pos hl, if_pos ⟨hbad, by decide⟩]
      have C3 := kept (fun W hW => xfail_any S g r 2 W hW (by decide) (by decide))
      rw [ev, er]
      obtain rfl : b.length = at_ := hatb.symm
      clear hr ha hk hbad ev er he hl
      go_enter Try.func77, Try.ntmps77
      go_wp2
      go_quiet (fail)
      go_wp2_with fail
      refine (C3.out _ (HR.out.next (below_draw _ _ _))).mono ?_
      rintro e w2 ⟨rfl, hR2, hu2⟩
      go_wp2
      go_ret
      exact ⟨rfl, hR2, ((Upd.refl _ w).drewN _).trans hu2⟩
    · have hdl := he hbad
      have hatb : at_ < b.length := by
        have := congrArg List.length hdl
        rw [hl, List.length_drop] at this
        simp at this
        omega
      have hget : b[at_]? = some x := by
        have : (b.drop at_)[0]? = some x := by rw [← hdl, hl]; rfl
        rwa [List.getElem?_drop, Nat.add_zero] at this
      have ev : r.byteV = x := by unfold RS.byteV; rw [if_pos hbad, hl]; rfl
      have er : r.byteR = ⟨r.l.drop 1, 0⟩ := by unfold RS.byteR; rw [if_pos hbad, if_neg (by rw [hl]; simp)]
      have hx : x < 256 := o1 x (by rw [hl]; exact List.mem_cons_self)
      obtain ⟨bb, o, rfl, hbb2, hcell⟩ := hr.at_ (k := at_) (u := .int .u8 (x : Int)) (by simp [BB, hget])
      have hne : bb ≠ g := (ha _ rfl (by intro e; have h0 := congrArg List.length e; rw [BB_length] at h0; have h1 : b.length = 0 := h0; omega)).2
      have hfin : Kept (∀ q wb, wb = (w.drewN q).setCell ⟨g, 1, none⟩ (.int .i64 ((at_ : Int) + 1)) → RRdr wb S g r.byteR ∧ Upd (fun k => k = g) w wb ∧ wb.cell? ⟨g, 0, none⟩ = some (.slice (some ⟨bb, o, none⟩) b.length c) ∧ wb.cell? ⟨g, 1, none⟩ = some (.int .i64 ((at_ : Int) + 1)) ∧ wb.cell? ⟨bb, o + at_, none⟩ = some (.int .u8 (x : Int))) := ⟨by
        rintro q wb rfl
        have hu : Upd (fun k => k = g) w ((w.drewN q).setCell ⟨g, 1, none⟩ (.int .i64 ((at_ : Int) + 1))) := (((Upd.refl (fun k => k = g) w).drewN q).setCell (p := ⟨g, 1, none⟩) (.inl rfl) _)
        have hks := (hk.drewN q).set 1 (.int .i64 ((at_ : Int) + 1))
        refine ⟨⟨hokb, hg, fun k hk => Nat.lt_of_lt_of_le (hS k hk) hu.size, _, b, c, at_ + 1, ?_, (hr.updN hu (Nat.le_refl _) (fun y hy hn => (ha y hy hn).2)).more hu.size, hb, hc, hcc, hbl, hatb, fun _ => ?_, ha⟩, hu, hks.cell rfl, hks.cell rfl, (hu.cell (p := ⟨bb, o + at_, none⟩) hbb2 hne).trans hcell⟩
        · rw [hbad] at hks
          rw [er]
          exact hks
        · rw [er, hdl, List.drop_drop]⟩
      rw [ev]
      have hatb' : (at_ : Int) < (b.length : Int) := by omega
      generalize r.byteR = r1 at *
      clear hr ha hk hbad ev er he hl hdl hget hcell
      go_enter Try.func77, Try.ntmps77
      go_wp2
      go_quiet (fail)
      go_wp2
      obtain ⟨wb, hwb⟩ : ∃ wb, (w.drewN nq).setCell ⟨g, 1, none⟩ (.int .i64 ((at_ : Int) + 1)) = wb := ⟨_, rfl⟩
      obtain ⟨y1, y2, y3, y4, y5⟩ := hfin.out nq wb hwb.symm
      rw [hwb]
      have HY := kept y1
      have hw1 : IntKind.i64.wrap (at_ : Int) = (at_ : Int) := IntWalk.i64_in _ (by omega)
      have hz1 : (0 : Int) ≤ (at_ : Int) := by omega
      clear hwb y1 h0 h1 h2 f1
      go_quiet (fail)
      go_wp2
      go_ret
      exact ⟨rfl, HY.out.next (below_draw _ _ _), y2.drewN _⟩
  · have hbb : ((r.bad : Int) != 0) = true := by simp; omega
    have ev : r.byteV = 0 := by unfold RS.byteV; rw [if_neg hbad]
    have er : r.byteR = r := by unfold RS.byteR; rw [if_neg hbad]
    rw [ev, er]
    clear hr ha hk hbad ev er he
    go_enter Try.func77, Try.ntmps77
    go_wp2
    go_ret
    exact ⟨rfl, HR.out, Upd.refl _ _⟩
end Go.Proofs.Ytmfclekjojninaa.Pack
