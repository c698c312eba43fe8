/- The walks of layer 4: a reader's Text, and New. -/
import Derived.Test.YtmfclekjojninaaPackRead
import Derived.IntWalk
namespace Go.Proofs.Ytmfclekjojninaa.Pack
open Go.RowKit Go.Proofs.Ytmfclekjojninaa.Mem Go.Proofs.Ytmfclekjojninaa.Num

set_option maxHeartbeats 1000000 in
theorem text_nat (S : Nat → Prop) (g : Nat) (r : RS) (most : Int) (M : Nat) (w : World) (h : Rdr w S g r) (hm : max most 0 = (M : Int)) (hm2 : M < 9223372036854775808) :
    Calls Try.prog 72 #[.pointer (some ⟨g, 0, none⟩), .int .i64 most] w (Reads S g w (.string (strB (r.textV M))) (r.textR M)) := by
  have hok := h.ok.num
  have C1 := kept (num_any S g r w h)
  have hv := r.numV_lt h.ok
  have C2 := kept (fun W h => rerr_any S g r.numR W h)
  have C3 := kept (fun W h => left_any S g r.numR W h)
  have CF := kept (fun W h x (hx : x < 5) => fail_any S g r.numR x W h (by omega))
  have HM : IntKind.u64.wrap (max most 0) = (M : Int) := by rw [hm, IntKind.wrap_u64]; omega
  obtain ⟨b, hb⟩ : ∃ b, r.textB M = b := ⟨_, rfl⟩
  have hbs := hb
  unfold RS.textB at hbs
  unfold RS.textV RS.textR
  rw [hb]
  clear hb hm h
  generalize r.numV = v at *
  generalize r.numR = r1 at *
  by_cases hbad : r1.bad = 0
  · have hb : ((r1.bad : Int) != 0) = false := by simp; omega
    rw [if_neg (by simpa using hbad)] at hbs
    have hf : ∀ x, x ≠ 0 → r1.fail x = ⟨[], x⟩ := fun x hx => by unfold RS.fail; rw [if_pos ⟨hbad, hx⟩]
    by_cases hlt : M < v
    · rw [if_pos hlt] at hbs
      subst hbs
      rw [if_neg (by decide), if_neg (by decide)]
      have C4 := kept (fun W h => by have := CF.out W h 3 (by decide); rw [hf 3 (by decide)] at this; exact this)
      clear CF hf hbad
      go_enter Try.func72, Try.ntmps72
      go_wp2_with fail
      refine C1.out.mono ?_
      rintro e w1 ⟨rfl, hR, hu⟩
      go_wp2_with fail
      refine (C2.out _ hR).mono ?_
      rintro e w2 ⟨rfl, rfl⟩
      go_wp2_with fail
      refine (C4.out _ hR).mono ?_
      rintro e w3 ⟨rfl, hR3, hu3⟩
      go_wp2
      go_ret
      exact ⟨rfl, hR3, hu.trans hu3⟩
    · rw [if_neg hlt] at hbs
      have hl64 : r1.l.length ≤ 140737488355328 := hok.2.2.1
      by_cases hln : r1.l.length < v
      · rw [if_pos hln] at hbs
        subst hbs
        rw [if_neg (by decide), if_neg (by decide)]
        have C4 := kept (fun W h => by have := CF.out W h 2 (by decide); rw [hf 2 (by decide)] at this; exact this)
        clear CF hf hbad
        go_enter Try.func72, Try.ntmps72
        go_wp2_with fail
        refine C1.out.mono ?_
        rintro e w1 ⟨rfl, hR, hu⟩
        go_wp2_with fail
        refine (C2.out _ hR).mono ?_
        rintro e w2 ⟨rfl, rfl⟩
        go_wp2_with fail
        refine (C3.out _ hR).mono ?_
        rintro e w2 ⟨rfl, rfl⟩
        go_wp2_with fail
        refine (C4.out _ hR).mono ?_
        rintro e w3 ⟨rfl, hR3, hu3⟩
        go_wp2
        go_ret
        exact ⟨rfl, hR3, hu.trans hu3⟩
      · rw [if_neg hln] at hbs
        subst hbs
        rw [if_pos rfl, if_pos rfl]
        have C4 := kept (fun W h => take_any S g r1 v W h (by omega) hbad)
        have hlen : (r1.l.take v).length = v := by rw [List.length_take]; omega
        have HL := kept hlen
        generalize r1.l.take v = t at *
        clear CF hf hbad hlen
        go_enter Try.func72, Try.ntmps72
        go_wp2_with fail
        refine C1.out.mono ?_
        rintro e w1 ⟨rfl, hR, hu⟩
        go_wp2_with fail
        refine (C2.out _ hR).mono ?_
        rintro e w2 ⟨rfl, rfl⟩
        go_wp2_with fail
        refine (C3.out _ hR).mono ?_
        rintro e w2 ⟨rfl, rfl⟩
        go_wp2_with fail
        refine (C4.out _ hR).mono ?_
        rintro e w3 ⟨A', c', rfl, hc', hr', hR3, hu3⟩
        have hs := run_str w3 _ A' v c' t HL.out.symm hr'
        clear hr'
        go_wp2
        go_ret
        exact ⟨rfl, hR3, hu.trans hu3⟩
  · have hb : ((r1.bad : Int) != 0) = true := by simp; omega
    rw [if_pos (by simpa using hbad)] at hbs
    subst hbs
    rw [if_neg hbad, if_neg hbad]
    have e1 : (⟨[], r1.bad⟩ : RS) = r1 := by
      obtain ⟨l, x⟩ := r1
      have := hok.2.1 hbad
      dsimp only at this
      subst this; rfl
    rw [e1]
    clear CF hbad e1
    go_enter Try.func72, Try.ntmps72
    go_wp2_with fail
    refine C1.out.mono ?_
    rintro e w1 ⟨rfl, hR, hu⟩
    go_wp2_with fail
    refine (C2.out _ hR).mono ?_
    rintro e w2 ⟨rfl, rfl⟩
    go_wp2
    go_ret
    exact ⟨rfl, hR, hu⟩
theorem text_any (S : Nat → Prop) (g : Nat) (r : RS) (most : Int) (w : World) (h : Rdr w S g r) (hm : most ≤ 9223372036854775807) :
    Calls Try.prog 72 #[.pointer (some ⟨g, 0, none⟩), .int .i64 most] w (Reads S g w (.string (strB (r.textV most.toNat))) (r.textR most.toNat)) :=
  text_nat S g r most most.toNat w h (by omega) (by omega)
/-- a reader of bytes, that shares nothing with them -/
def News (w : World) (l : List Nat) (e : Ending) (w' : World) : Prop :=
  ∃ (S : Nat → Prop) (g : Nat), e = .returned (.pointer (some ⟨g, 0, none⟩)) ∧ Rdr w' S g ⟨l, 0⟩ ∧ (∀ k, S k → w.heap.size ≤ k) ∧ Below w.heap.size w w'
theorem new_any (A : Option Addr) (n c : Nat) (l : List Nat) (w : World) (hn : n = l.length) (hl : AllB l) (hr : Rd w w.heap.size A (BB l)) (hsz : l.length ≤ 140737488355000) :
    Calls Try.prog 51 #[.slice A n c] w (News w l) := by
  subst hn
  have hz : ([] : List Nat).length + l.length ≤ 140737488355328 := by simp; omega
  go_enter Try.func51, Try.ntmps51
  go_wp2_with (at_builtin; refine wpl_app rfl (.const (.slice none 0 0)) (.tmp 3) rfl w.heap.size _ [] rfl (Own.nilv _ _ _) w.heap.size A _ c l rfl rfl hr hz (Nat.le_refl _) ?_; intro A2 c2 w2 r2 hr2 hown2 hg2 hb2)
  go_ret
  obtain rfl : r2 = l := hr2.out
  have hb3 := hb2.alloc hb2.size (.cells #[.slice A2 r2.length c2, .int .i64 0] 112)
  have hlt : ∀ x, A2 = some x → w.heap.size ≤ x.block ∧ x.block < w2.heap.size := fun x hx => by subst hx; exact hown2.lt x.block rfl
  have hc := hown2.form
  obtain ⟨_, _, he, hc1, hc2, _⟩ := hc
  injection he with _ _ he
  subst he
  rw [BB_length] at hc1
  unfold maxLen at hc2
  refine ⟨fun k => k = w2.heap.size ∨ ∃ x, A2 = some x ∧ x.block = k, w2.heap.size, rfl, ⟨RS.new hl (by omega), .inl rfl, ?_, A2, c2, Blk.new w2 [.slice A2 r2.length c2, .int .i64 0] _, (hown2.rd.alloc (Nat.le_refl _) _).more (by simp), hc1, hc2, fun x hx => ⟨.inr ⟨x, hx, rfl⟩, by have := hlt x hx; omega⟩⟩, ?_, hb3⟩
  · rintro k (rfl | ⟨x, hx, rfl⟩)
    · simp
    · have := hlt x hx; simp; omega
  · rintro k (rfl | ⟨x, hx, rfl⟩)
    · exact hb2.size
    · exact (hlt x hx).1
end Go.Proofs.Ytmfclekjojninaa.Pack
