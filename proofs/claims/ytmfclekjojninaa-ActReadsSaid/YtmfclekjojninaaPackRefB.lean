/- The walks of layer 4: the document's reader, continued: Flag, Text, End. -/
import Derived.Test.YtmfclekjojninaaPackRef
namespace Go.Proofs.Ytmfclekjojninaa.Pack
open Go.RowKit Go.Proofs.Ytmfclekjojninaa.Mem Go.Proofs.Ytmfclekjojninaa.Num

/-- what a reader's cells hold -/
theorem RRdr.cells {S : Nat → Prop} {w : World} {g : Nat} {r : RS} (h : RRdr w S g r) :
    g < w.heap.size ∧ w.cell? ⟨g, 2, none⟩ = some (.int .i64 (r.bad : Int)) ∧ ∃ A b c at_, w.cell? ⟨g, 0, none⟩ = some (.slice A (b : List Nat).length c) ∧ w.cell? ⟨g, 1, none⟩ = some (.int .i64 ((at_ : Nat) : Int)) ∧ w.frozen? ⟨g, 1, none⟩ = false ∧ at_ ≤ b.length ∧ b.length ≤ c ∧ b.length ≤ 140737488355328 ∧ (r.bad = 0 → r.l = b.drop at_) ∧ Rd w w.heap.size A (BB b) ∧ c ≤ 9223372036854775807 := by
  obtain ⟨ho, hg, hS, A, b, c, at_, hk, hr, hb, hc, hcc, hbl, hat, he, ha⟩ := h
  exact ⟨hk.lt, hk.cell rfl, A, b, c, at_, hk.cell rfl, hk.cell rfl, hk.frozen 1, hat, hc, hbl, he, hr, hcc⟩
theorem xend_any (S : Nat → Prop) (g : Nat) (r : RS) (w : World) (h : RRdr w S g r) :
    Calls Try.prog 60 #[.pointer (some ⟨g, 0, none⟩)] w (RReads S g w (.int .i64 (r.endR.bad : Int)) r.endR) := by
  have HR := kept h
  have C1 := kept (xleft_any S g r w h)
  have C2 := kept (fun W h => xfail_any S g r 4 W h (by decide) (by decide))
  by_cases hlt : 0 < r.l.length
  · have er : r.fail 4 = r.endR := by unfold RS.endR; rw [if_pos hlt]
    rw [er] at C2
    generalize r.endR = r1 at *
    clear er h
    go_enter Try.func60, Try.ntmps60
    go_wp2_with fail
    refine C1.out.mono ?_
    rintro e w1 ⟨rfl, q, rfl⟩
    have hb1 := below_draw w.heap.size w q
    go_wp2_with fail
    refine (C2.out _ (HR.out.next hb1)).mono ?_
    rintro e w2 ⟨rfl, hR2, hu2⟩
    obtain ⟨hlt, h2, _⟩ := hR2.cells
    have HR2 := kept hR2
    clear hR2
    go_wp2
    go_ret
    exact ⟨rfl, HR2.out, (Upd.of_below hb1).trans hu2⟩
  · have er : r.endR = r := by unfold RS.endR; rw [if_neg hlt]
    rw [er]
    clear er h
    go_enter Try.func60, Try.ntmps60
    go_wp2_with fail
    refine C1.out.mono ?_
    rintro e w1 ⟨rfl, q, rfl⟩
    have hb1 := below_draw w.heap.size w q
    have hR2 := HR.out.next hb1
    obtain ⟨hlt, h2, _⟩ := hR2.cells
    have HR2 := kept hR2
    clear hR2
    go_wp2
    go_ret
    exact ⟨rfl, HR2.out, Upd.of_below hb1⟩
theorem numV_bad {r : RS} (h : r.numR.bad ≠ 0) : r.numV = 0 := by
  unfold RS.numR at h
  unfold RS.numV
  split
  · rename_i hb
    rw [if_pos hb] at h
    split at h
    · exact absurd rfl h
    · rename_i he; exact read_v_err 0 he
  · rfl
set_option maxHeartbeats 2000000 in
theorem xtext_nat (S : Nat → Prop) (g : Nat) (r : RS) (most : Int) (M : Nat) (w : World) (h : RRdr w S g r) (hm : (most < 0 ∧ M = 0) ∨ most = (M : Int)) (hm2 : M < 9223372036854775808) :
    Calls Try.prog 78 #[.pointer (some ⟨g, 0, none⟩), .int .i64 most] w (RReads S g w (.string (strB (r.textV M))) (r.textR M)) := by
  have hok := h.ok.num
  have hokt := h.ok.text M
  have C1 := kept (xnum_any S g r w h)
  have hv := r.numV_lt h.ok
  have hvb := numV_bad (r := r)
  have CF := kept (fun W h x (hx : x < 5) (h0 : x ≠ 0) => xfail_any S g r.numR x W h (by omega) h0)
  obtain ⟨b, hb⟩ : ∃ b, r.textB M = b := ⟨_, rfl⟩
  have hbs := hb
  unfold RS.textB at hbs
  unfold RS.textV
  unfold RS.textR at hokt ⊢
  rw [hb] at hokt ⊢
  clear hb h
  generalize r.numV = v at *
  generalize r.numR = r1 at *
  by_cases hbad : r1.bad = 0
  · have hb : ((r1.bad : Int) == 0) = true := by simp; omega
    have hb' : ((r1.bad : Int) != 0) = false := by simp; omega
    rw [if_neg (by simpa using hbad)] at hbs
    have hf : ∀ x, x ≠ 0 → r1.fail x = ⟨[], x⟩ := fun x hx => by unfold RS.fail; rw [if_pos ⟨hbad, hx⟩]
    by_cases hlt : M < v
    · rw [if_pos hlt] at hbs
      subst hbs
      rw [if_neg (by decide), if_neg (by decide)]
      have C4 := kept (fun W h => by have := CF.out W h 3 (by decide) (by decide); rw [hf 3 (by decide)] at this; exact this)
      clear CF hf hbad hvb hok hokt
      have hlt' : (M : Int) < (v : Int) := by omega
      rcases hm with ⟨hneg, rfl⟩ | rfl
      all_goals
        go_enter Try.func78, Try.ntmps78
        go_wp2_with fail
        refine C1.out.mono ?_
        rintro e w1 ⟨rfl, hR, hu⟩
        go_wp2_with fail
        refine (C4.out _ hR).mono ?_
        rintro e w2 ⟨rfl, hR2, hu2⟩
        obtain ⟨hlt2, h2, _⟩ := hR2.cells
        have HR2 := kept hR2
        clear hR hR2
        go_wp2
        go_quiet (fail)
        go_wp2
        go_ret
        exact ⟨rfl, HR2.out.next (below_draw _ _ _), (hu.trans hu2).drewN _⟩
    · rw [if_neg hlt] at hbs
      have hl64 : r1.l.length ≤ 140737488355328 := hok.2.2.1
      have hlt' : (v : Int) ≤ (M : Int) := by omega
      by_cases hln : r1.l.length < v
      · rw [if_pos hln] at hbs
        subst hbs
        rw [if_neg (by decide), if_neg (by decide)]
        have C4 := kept (fun W h => by have := CF.out W h 2 (by decide) (by decide); rw [hf 2 (by decide)] at this; exact this)
        clear CF hf hvb hok hokt
        have HBAD := kept hbad
        clear hbad
        rcases hm with ⟨hneg, rfl⟩ | rfl
        · exact absurd hlt' (by omega)
        go_enter Try.func78, Try.ntmps78
        go_wp2_with fail
        refine C1.out.mono ?_
        rintro e w1 ⟨rfl, hR, hu⟩
        obtain ⟨hlt2, h2, A, bb, c, at_, h0, h1, f1, hat, hc, hbl, he, hr, hcc⟩ := hR.cells
        have hl1 : r1.l.length = bb.length - at_ := by rw [he HBAD.out, List.length_drop]
        have hlb : (bb.length : Int) - at_ < (v : Int) := by omega
        have hlb2 : bb.length - at_ < v := by omega
        have HR := kept hR
        clear hR he hr hl1
        go_wp2_with fail
        go_quiet (fail)
        go_wp2_with fail
        refine (C4.out _ (HR.out.next (below_draw _ _ _))).mono ?_
        rintro e w2 ⟨rfl, hR2, hu2⟩
        obtain ⟨hlt3, h2', _⟩ := hR2.cells
        have HR2 := kept hR2
        clear hR2 h0 h1 h2 f1
        go_wp2
        go_ret
        exact ⟨rfl, HR2.out, (hu.drewN _).trans hu2⟩
      · rw [if_neg hln] at hbs
        subst hbs
        rw [if_pos rfl] at hokt
        rw [if_pos rfl, if_pos rfl]
        have hlen : (r1.l.take v).length = v := by rw [List.length_take]; omega
        have HL := kept hlen
        have HBAD := kept hbad
        clear CF hf hvb hbad hlen
        rcases hm with ⟨hneg, rfl⟩ | rfl
        all_goals
          go_enter Try.func78, Try.ntmps78
          go_wp2_with fail
          refine C1.out.mono ?_
          rintro e w1 ⟨rfl, hR, hu⟩
          have HR := kept hR
          obtain ⟨ho, hg, hS, A, bb, c, at_, hk, hr, hB, hc, hcc, hbl, hat, he, ha⟩ := hR
          have h0 := hk.cell (j := 0) rfl
          have h1 := hk.cell (j := 1) rfl
          have h2 := hk.cell (j := 2) rfl
          have f1 := hk.frozen 1
          have hlt2 := hk.lt
          have he := he HBAD.out
          have hl1 : r1.l.length = bb.length - at_ := by rw [he, List.length_drop]
          have hlb : (v : Int) ≤ (bb.length : Int) - at_ := by omega
          have hlb2 : v ≤ bb.length - at_ := by omega
          have hav : at_ + v ≤ bb.length := by omega
          have hfin : Kept (∀ q wb, wb = (w1.drewN q).setCell ⟨g, 1, none⟩ (.int .i64 ((at_ : Int) + (v : Int))) → RRdr wb S g ⟨r1.l.drop v, 0⟩ ∧ Upd (fun k => k = g) w1 wb ∧ wb.cell? ⟨g, 0, none⟩ = some (.slice A bb.length c) ∧ wb.cell? ⟨g, 1, none⟩ = some (.int .i64 ((at_ : Int) + (v : Int))) ∧
              ∀ q', (convert 28 9 (.slice (if c = at_ then A else A.map (·.add at_)) v (c - at_))).run Try.prog (wb.drewN q') = .ok (.string (strB (r1.l.take v))) (wb.drewN q')) := ⟨by
            rintro q wb rfl
            have hu : Upd (fun k => k = g) w1 ((w1.drewN q).setCell ⟨g, 1, none⟩ (.int .i64 ((at_ : Int) + (v : Int)))) := (((Upd.refl (fun k => k = g) w1).drewN q).setCell (p := ⟨g, 1, none⟩) (.inl rfl) _)
            have hks := (hk.drewN q).set 1 (.int .i64 ((at_ : Int) + (v : Int)))
            have hru := (hr.updN hu (Nat.le_refl _) (fun y hy hn => (ha y hy hn).2)).more hu.size
            have hrd := (hru.drop at_ c bb.length hat hc (BB_length _)).take v
            rw [BB_drop, BB_take, ← he] at hrd
            refine ⟨⟨hokt, hg, fun k hk => Nat.lt_of_lt_of_le (hS k hk) hu.size, A, bb, c, at_ + v, ?_, hru, hB, hc, hcc, hbl, hav, fun _ => ?_, ha⟩, hu, hks.cell rfl, hks.cell rfl, fun q' => run_str _ _ _ v _ _ HL.out.symm (hrd.drewN q')⟩
            · rw [HBAD.out] at hks
              have e : ((at_ + v : Nat) : Int) = (at_ : Int) + (v : Int) := by omega
              rw [e]
              exact hks
            · rw [he, List.drop_drop]⟩
          generalize r1.l.take v = t at *
          generalize (⟨r1.l.drop v, 0⟩ : RS) = r2 at *
          have hb0 : ((r1.bad : Int) == 0) = true := hb
          clear hr ha hk he hl1
          go_wp2_with fail
          go_quiet (fail)
          go_wp2_with fail
          obtain ⟨wb, hwb⟩ : ∃ wb, (w1.drewN nq).setCell ⟨g, 1, none⟩ (.int .i64 ((at_ : Int) + (v : Int))) = wb := ⟨_, rfl⟩
          obtain ⟨y1, y2, y3, y4, y5⟩ := hfin.out nq wb hwb.symm
          rw [hwb]
          have HY := kept y1
          have hwr : IntKind.i64.wrap ((at_ : Int) + (v : Int)) = (at_ : Int) + (v : Int) := IntWalk.i64_in _ (by omega)
          have hz1 : (0 : Int) ≤ (at_ : Int) + (v : Int) := by omega
          have hz2 : ((at_ : Int) + (v : Int)).toNat = at_ + v := by omega
          have hz3 : at_ + v - at_ = v := by omega
          clear hwb y1 h0 h1 h2 f1
          go_quiet (fail)
          all_goals go_wp2
          all_goals go_ret
          all_goals exact ⟨rfl, HY.out.next (below_draw _ _ _), hu.trans (y2.drewN _)⟩
  · have hb : ((r1.bad : Int) == 0) = false := by rw [beq_eq_false_iff_ne]; omega
    have hb' : ((r1.bad : Int) != 0) = true := by simp; omega
    rw [if_pos (by simpa using hbad)] at hbs
    subst hbs
    obtain rfl := hvb hbad
    rw [if_neg hbad, if_neg hbad]
    have e1 : (⟨[], r1.bad⟩ : RS) = r1 := by
      obtain ⟨l, x⟩ := r1
      have := hok.2.1 hbad
      dsimp only at this
      subst this; rfl
    rw [e1]
    clear CF hbad e1 hvb hokt
    rcases hm with ⟨hneg, rfl⟩ | rfl
    all_goals
      go_enter Try.func78, Try.ntmps78
      go_wp2_with fail
      refine C1.out.mono ?_
      rintro e w1 ⟨rfl, hR, hu⟩
      obtain ⟨hlt3, h2, _⟩ := hR.cells
      have HR := kept hR
      clear hR
      go_wp2_with fail
      go_quiet (fail)
      go_wp2
      go_ret
      exact ⟨rfl, HR.out.next (below_draw _ _ _), hu.drewN _⟩
theorem xtext_any (S : Nat → Prop) (g : Nat) (r : RS) (most : Int) (w : World) (h : RRdr w S g r) (hm : most ≤ 9223372036854775807) :
    Calls Try.prog 78 #[.pointer (some ⟨g, 0, none⟩), .int .i64 most] w (RReads S g w (.string (strB (r.textV most.toNat))) (r.textR most.toNat)) :=
  xtext_nat S g r most most.toNat w h (by rcases Int.lt_or_le most 0 with h | h; exact .inl ⟨h, by omega⟩; exact .inr (by omega)) (by omega)
end Go.Proofs.Ytmfclekjojninaa.Pack
