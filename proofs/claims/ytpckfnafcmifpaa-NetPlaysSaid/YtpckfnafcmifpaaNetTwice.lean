/- Layer 36 (net): Twice. -/
import Derived.Test.YtpckfnafcmifpaaNetTake
import Derived.BigQuiet
import Derived.Deep.DeepCutAuto
import Derived.Deep.CutBlock
namespace Go.Proofs.Ytpckfnafcmifpaa.Net
open Go.RowKit Go.Proofs.Ytpckfnafcmifpaa.Mem

theorem mem_set' {α : Type} {l : List α} {i : Nat} {y z : α} (h : z ∈ l.set i y) : z ∈ l ∨ z = y := List.mem_or_eq_of_mem_set h
/-- whether a message is spoilt, written anew -/
theorem nst_bad {w : World} {S : Nat → Prop} {g r i c : Nat} {xs : List OneM} {x : OneM} (h : Nst w S g xs) (hi : xs[i]? = some x) (hX : w.cell? ⟨g, 0, none⟩ = some (.slice (some ⟨r, 0, none⟩) xs.length c)) (v : Bool) :
    Nst (w.setCell ⟨r, i * 3 + 2, none⟩ (.bool v)) S g (xs.set i ⟨x.to, x.A, x.b, x.c, v⟩) ∧ Upd S w (w.setCell ⟨r, i * 3 + 2, none⟩ (.bool v)) ∧ w.frozen? ⟨r, i * 3 + 2, none⟩ = false := by
  obtain ⟨h1, h2, h3, X', c', h5, h6, h7, h8⟩ := h
  have hk0 : w.cell? ⟨g, 0, none⟩ = some (.slice X' xs.length c') := h5.cell rfl
  rw [hk0] at hX
  injection hX with hX
  injection hX with e1 e2 e3
  subst e1 e3
  obtain ⟨hrS, hrg⟩ := h7 _ rfl
  dsimp only at hrS hrg
  obtain ⟨r', e, -, -, -, hf, hst⟩ := h6.spot (j := 2) hi rfl
  obtain rfl : r = r' := congrArg Addr.block (Option.some.inj e)
  obtain ⟨s1, -⟩ := hst ⟨x.to, x.A, x.b, x.c, v⟩ (.bool v) rfl
  have hU : Upd (fun k => k = r) w (w.setCell ⟨r, i * 3 + 2, none⟩ (.bool v)) := (Upd.refl (fun k => k = r) w).setCell (p := ⟨r, i * 3 + 2, none⟩) (.inl rfl) _
  have hxl := h8 x (List.mem_of_getElem? hi)
  refine ⟨⟨h1, fun k hk => Nat.lt_of_lt_of_le (h2 k hk) hU.size, by rw [List.length_set]; exact h3, _, c', ?_, ?_, h7, fun y hy => ?_⟩, hU.mono fun k _ e => by rw [e]; exact hrS, hf⟩
  · rw [List.length_set]; exact h5.upd hU fun e => hrg e.symm
  · have s2 : oneE.Own (w.setCell ⟨r, i * 3 + 2, none⟩ (.bool v)) 0 98 (.slice (some ⟨r, 0, none⟩) xs.length c') (xs.set i ⟨x.to, x.A, x.b, x.c, v⟩) := s1
    rwa [List.length_set]
  · have hT : ∀ k, (fun k => k = r) k → k = g ∨ ∃ z, some (⟨r, 0, none⟩ : Addr) = some z ∧ z.block = k := fun k e => .inr ⟨_, rfl, e.symm⟩
    rcases mem_set' hy with h9 | rfl
    · exact lies_upd (h8 y h9) (fun y hy => ⟨_, hy, rfl⟩) hU hT
    · obtain ⟨a1, a2, a3⟩ := lies_upd hxl (fun y hy => ⟨_, hy, rfl⟩) hU hT
      exact ⟨a1, a2, a3⟩
/-- a message's bytes, written anew -/
theorem nst_bytes {n0 : Nat} {w : World} {S : Nat → Prop} {g r i c c2 : Nat} {xs : List OneM} {x : OneM} {A2 : Option Addr} {b2 : List Nat} (h : Nst w S g xs) (hi : xs[i]? = some x) (hX : w.cell? ⟨g, 0, none⟩ = some (.slice (some ⟨r, 0, none⟩) xs.length c))
    (hok : (⟨x.to, b2, x.bad⟩ : MsgM).Ok) (hrd : Rd w w.heap.size A2 (BB b2)) (hfr : BB b2 ≠ [] → ∀ a, A2 = some a → ¬ S a.block ∧ n0 ≤ a.block) :
    ∃ S', Nst (w.setCell ⟨r, i * 3 + 1, none⟩ (.slice A2 b2.length c2)) S' g (xs.set i ⟨x.to, A2, b2, c2, x.bad⟩) ∧ Upd S w (w.setCell ⟨r, i * 3 + 1, none⟩ (.slice A2 b2.length c2)) ∧ (∀ k, S' k → S k ∨ n0 ≤ k) ∧ w.frozen? ⟨r, i * 3 + 1, none⟩ = false ∧ Rd (w.setCell ⟨r, i * 3 + 1, none⟩ (.slice A2 b2.length c2)) (w.setCell ⟨r, i * 3 + 1, none⟩ (.slice A2 b2.length c2)).heap.size x.A (BB x.b) := by
  obtain ⟨h1, h2, h3, X', c', h5, h6, h7, h8⟩ := h
  have hk0 : w.cell? ⟨g, 0, none⟩ = some (.slice X' xs.length c') := h5.cell rfl
  rw [hk0] at hX
  injection hX with hX
  injection hX with e1 e2 e3
  subst e1 e3
  obtain ⟨hrS, hrg⟩ := h7 _ rfl
  dsimp only at hrS hrg
  obtain ⟨r', e, -, -, -, hf, hst⟩ := h6.spot (j := 1) hi rfl
  obtain rfl : r = r' := congrArg Addr.block (Option.some.inj e)
  obtain ⟨s1, -⟩ := hst ⟨x.to, A2, b2, c2, x.bad⟩ (.slice A2 b2.length c2) rfl
  have hU : Upd (fun k => k = r) w (w.setCell ⟨r, i * 3 + 1, none⟩ (.slice A2 b2.length c2)) := (Upd.refl (fun k => k = r) w).setCell (p := ⟨r, i * 3 + 1, none⟩) (.inl rfl) _
  have hxlt : BB b2 ≠ [] → ∀ a, A2 = some a → a.block < w.heap.size := fun hne a ha => by
    obtain ⟨b, o, e, hb, _⟩ := hrd hne
    rw [ha] at e
    obtain rfl := Option.some.inj e
    exact hb
  refine ⟨fun k => S k ∨ (BB b2 ≠ [] ∧ ∃ a, A2 = some a ∧ a.block = k), ⟨.inl h1, fun k hk => ?_, by rw [List.length_set]; exact h3, _, c', ?_, ?_, fun y hy => ⟨.inl (h7 y hy).1, (h7 y hy).2⟩, fun y hy => ?_⟩, hU.mono fun k _ e => by rw [e]; exact hrS, fun k hk => ?_, hf, (lies_upd (h8 x (List.mem_of_getElem? hi)) (fun y hy => ⟨_, hy, rfl⟩) hU fun k e => .inr ⟨_, rfl, e.symm⟩).2.1⟩
  · refine Nat.lt_of_lt_of_le ?_ hU.size
    rcases hk with h | ⟨hne, a, ha, rfl⟩
    · exact h2 k h
    · exact hxlt hne a ha
  · rw [List.length_set]; exact h5.upd hU fun e => hrg e.symm
  · have s2 : oneE.Own (w.setCell ⟨r, i * 3 + 1, none⟩ (.slice A2 b2.length c2)) 0 98 (.slice (some ⟨r, 0, none⟩) xs.length c') (xs.set i ⟨x.to, A2, b2, c2, x.bad⟩) := s1
    rwa [List.length_set]
  · have hT : ∀ k, (fun k => k = r) k → k = g ∨ ∃ z, some (⟨r, 0, none⟩ : Addr) = some z ∧ z.block = k := fun k e => .inr ⟨_, rfl, e.symm⟩
    rcases mem_set' hy with h9 | rfl
    · obtain ⟨a1, a2, a3⟩ := lies_upd (h8 y h9) (fun y hy => ⟨_, hy, rfl⟩) hU hT
      exact ⟨a1, a2, fun hne a ha => ⟨.inl (a3 hne a ha).1, (a3 hne a ha).2⟩⟩
    · refine ⟨hok, (hrd.updN hU (Nat.le_refl _) fun a ha hne e => (hfr hne a ha).1 ?_).more hU.size, fun hne a ha => ⟨.inr ⟨hne, a, ha, rfl⟩, fun e => (hfr hne a ha).1 (e ▸ h1), fun z hz e => (hfr hne a ha).1 ?_⟩⟩
      · rw [show a.block = r from e]; exact hrS
      · obtain rfl := Option.some.inj hz
        rw [e]; exact hrS
  · rcases hk with h | ⟨hne, a, ha, rfl⟩
    · exact .inl h
    · exact .inr (hfr hne a ha).2
theorem twice_no (p : Value) (pick : Int) (w : World) (h : NLen w p 0) : Calls Try.prog 27 #[p, .int .i64 pick] w fun e w' => e = .returned (.int .i64 6) ∧ w = w' := by
  have C := kept (at_any p 0 pick w h (by decide))
  rw [show atI 0 pick = -1 from rfl] at C
  go_enter Try.func27, Try.ntmps27
  go_wp2_with fail
  refine C.out.mono ?_
  rintro e w' ⟨rfl, hw'⟩
  subst hw'
  go_wp2
  go_ret
  exact ⟨rfl, rfl⟩
theorem set_last {α : Type} (l : List α) (a b : α) : (l ++ [a]).set l.length b = l ++ [b] := by
  rw [List.set_append_right _ _ (Nat.le_refl _)]
  simp
set_option maxRecDepth 100000 in
set_option maxHeartbeats 4000000 in
theorem twice_at (S : Nat → Prop) (g : Nat) (xs : List OneM) (pick : Int) (x : OneM) (w : World) (h : Nst w S g xs) (hx : xs[(atI xs.length pick).toNat]? = some x) :
    Calls Try.prog 27 #[.pointer (some ⟨g, 0, none⟩), .int .i64 pick] w fun e w' => e = .returned (.int .i64 (if 512 ≤ xs.length then 8 else 0)) ∧ ∃ S' A' c', Nst w' S' g (if 512 ≤ xs.length then xs else xs ++ [⟨x.to, A', x.b, c', x.bad⟩]) ∧ Goes S w S' w' := by
  have CA := kept (at_any _ xs.length pick w h.len h.2.2.1)
  have hlt := (List.getElem?_eq_some_iff.1 hx).1
  obtain ⟨h1, h2⟩ := at_range pick (show 0 < xs.length by omega)
  obtain ⟨i, hi⟩ : ∃ i : Nat, atI xs.length pick = (i : Int) := ⟨(atI xs.length pick).toNat, by omega⟩
  rw [hi] at CA hx h2
  rw [Int.toNat_natCast] at hx
  obtain ⟨X, c, r, rfl, hg, hr, hgl, hrg, ⟨c0, c1, c2⟩, hl⟩ := h.spot hx
  have h512 := h.2.2.1
  have hmok := hl.1
  have hbd : Below w.heap.size w w.drew := (Below.refl _ _).drew
  obtain ⟨tt, A, b, cc, bad⟩ := x
  dsimp only [OneM.msg] at *
  have hi2 : (i : Int) < (xs.length : Int) := by omega
  have hi3 : (0 : Int) ≤ (i : Int) := by omega
  by_cases hfull : 512 ≤ xs.length
  · rw [if_pos hfull]
    simp only [if_pos hfull]
    have CS := kept (fun W (hb : Below w.heap.size w W) => send_full S g xs tt A b.length cc W (h.next hb) hfull)
    have HP := kept (fun W (hb : Below w.heap.size w W) => h.next hb)
    clear h hl hx hi
    go_enter Try.func27, Try.ntmps27
    go_wp2_with fail
    refine CA.out.mono ?_
    rintro e w' ⟨rfl, hw'⟩
    subst hw'
    go_upto_region 4 with fail
    go_cut [6] (fun e wx => e = .int .i64 8 ∧ wx = w.drew)
    case first =>
      go_region_with (go_at_call 23; refine (CS.out _ (by assumption)).mono ?_; rintro en w2 ⟨rfl, hw2⟩)
      all_goals (go_wp2; go_meet)
      all_goals exact ⟨rfl, hw2.symm⟩
    case rest =>
      obtain ⟨rfl, rfl⟩ := hcut
      go_wp2
      go_ret
      exact ⟨rfl, S, none, 0, HP.out _ hbd, ⟨Upd.of_below hbd, fun _ e => .inl e⟩⟩
  · rw [if_neg hfull]
    simp only [if_neg hfull]
    have hil : i < xs.length := by omega
    have CS := kept (fun W (hb : Below w.heap.size w W) => send_yes S g xs tt A b.length cc b W (h.next hb) (by omega) rfl (hl.2.1.next hb) ⟨hmok.1, hmok.2.1, hmok.2.2⟩)
    have HX := kept hx
    clear h hl hx hi
    go_enter Try.func27, Try.ntmps27
    go_wp2_with fail
    refine CA.out.mono ?_
    rintro e w' ⟨rfl, hw'⟩
    subst hw'
    go_upto_region 4 with fail
    go_cut [6] (fun e wx => e = .int .i64 0 ∧ ∃ S2 A2 cc2, Kept (Nst wx S2 g (xs ++ [⟨tt, A2, b, cc2, false⟩]) ∧ Goes S w.drew S2 wx))
    case first =>
      go_region_with (go_at_call 23; refine (CS.out _ (by assumption)).mono ?_; rintro en w2 ⟨rfl, S2, A2, cc2, hN2, hG2⟩; have HNG := kept (And.intro hN2 hG2); clear hN2 hG2)
      all_goals (go_wp2; go_meet)
      all_goals exact ⟨rfl, S2, A2, cc2, HNG⟩
    case rest =>
      obtain ⟨rfl, S2, A2, cc2, HNG⟩ := hcut
      obtain ⟨hN2, hG2⟩ := HNG.out
      obtain ⟨w2, rfl⟩ : ∃ w2 : World, w2 = wc := ⟨_, rfl⟩
      have hlen2 : (xs ++ [(⟨tt, A2, b, cc2, false⟩ : OneM)]).length = xs.length + 1 := by simp
      have hxi : (xs ++ [(⟨tt, A2, b, cc2, false⟩ : OneM)])[i]? = some ⟨tt, A, b, cc, bad⟩ := by rw [List.getElem?_append_left hil]; exact HX.out
      have hxn : (xs ++ [(⟨tt, A2, b, cc2, false⟩ : OneM)])[xs.length]? = some ⟨tt, A2, b, cc2, false⟩ := by simp
      obtain ⟨X2, c2', r2, rfl, hg2, hr2, hgl2, -, ⟨-, -, d2⟩, -⟩ := hN2.spot hxi
      obtain ⟨X3, c3', r3, e3, hg3, -, -, -, ⟨-, -, d3⟩, -⟩ := hN2.spot hxn
      have hfz := nst_bad hN2 hxn hg2 bad
      rw [set_last] at hfz
      have hf3 := hfz.2.2
      obtain rfl : r2 = r3 := by
        rw [hg2] at hg3
        injection hg3 with hg3
        injection hg3 with q1 q2 q3
        rw [← q1] at e3
        exact congrArg Addr.block (Option.some.inj e3)
      rw [hlen2] at hg2
      dsimp only at d2 d3
      have HF := kept hfz
      have HG2 := kept hG2
      have hsz5 : (xs.length : Int) ≤ 512 := by omega
      clear hfz hG2 hN2 hg3 CS CA hlen2 hxi hxn HNG hg c0 c1 c2
      go_wp2_with fail
      go_region
      all_goals
        go_wp2
        go_ret
        exact ⟨rfl, S2, A2, cc2, HF.out.1, (((show Upd S w w.drew from (Upd.refl S w).drew).trans HG2.out.1).join HF.out.2.1 (fun k hk e => (HG2.out.2 k e).elim id fun h2 => absurd hk (Nat.not_lt.2 h2))).drew, fun k e => HG2.out.2 k e⟩
end Go.Proofs.Ytpckfnafcmifpaa.Net
