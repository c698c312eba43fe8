/- Layer 36 (net): Spoil. -/
import Derived.Test.YtpckfnafcmifpaaNetTwice
namespace Go.Proofs.Ytpckfnafcmifpaa.Net
open Go.RowKit Go.Proofs.Ytpckfnafcmifpaa.Mem

theorem spoil_no (p : Value) (pick at_ : Int) (m : Nat) (w : World) (h : NLen w p 0) : Calls Try.prog 29 #[p, .int .i64 pick, .int .i64 at_, .int .u32 (m : Int)] w fun e w' => e = .returned (.int .i64 6) ∧ w = w' := by
  have C := kept (at_any p 0 pick w h (by decide))
  rw [show atI 0 pick = -1 from rfl] at C
  go_enter Try.func29, Try.ntmps29
  go_wp2_with fail
  refine C.out.mono ?_
  rintro e w' ⟨rfl, hw'⟩
  subst hw'
  go_wp2
  go_ret
  exact ⟨rfl, rfl⟩
/-- seal.Spoil, of whatever bytes -/
theorem spoilB_any (A : Option Addr) (n c : Nat) (b : List Nat) (at_ : Int) (m : Nat) (w : World) (hn : n = b.length) (hr : Rd w w.heap.size A (BB b)) (hl : AllB b) (hm : m < 4294967296) (hsz : b.length ≤ 140737488351232) :
    Calls Try.prog 48 #[.slice A n c, .int .i64 at_, .int .u32 (m : Int)] w fun e w' => ∃ A2 c2, e = .returned (.slice A2 (spoilB b at_ m).length c2) ∧ Own w' w.heap.size 5 (.slice A2 (spoilB b at_ m).length c2) (BB (spoilB b at_ m)) ∧ Below w.heap.size w w' := by
  subst hn
  unfold spoilB
  by_cases h0 : b.length = 0
  · rw [if_pos h0, h0]
    refine (Seal.spoil_nil A c at_ m w).mono ?_
    rintro e w' ⟨rfl, hb⟩
    exact ⟨none, 0, rfl, Own.nilv _ _ _, hb⟩
  · rw [if_neg h0]
    refine (Seal.spoil_any A b.length c b at_ m w rfl hr hl hm (by omega) (by omega)).mono ?_
    rintro e w' ⟨A2, c2, rfl, ho, -, hb⟩
    exact ⟨A2, c2, rfl, ho, hb⟩
theorem spoilB_ok {m : MsgM} (h : m.Ok) (at_ : Int) (k : Nat) (bad : Bool) : (⟨m.to, spoilB m.b at_ k, bad⟩ : MsgM).Ok := by
  unfold spoilB
  by_cases h0 : m.b.length = 0
  · rw [if_pos h0]
    exact ⟨(fun x hx => by cases hx), by simp, h.2.2⟩
  · rw [if_neg h0]
    exact ⟨Crc.spoilt_all _ _ _, by show (Crc.spoilt _ _ _).length ≤ _; rw [Crc.spoilt_length]; exact h.2.1, h.2.2⟩
set_option maxRecDepth 100000 in
theorem spoil_bad (S : Nat → Prop) (g : Nat) (xs : List OneM) (pick at_ : Int) (m : Nat) (x : OneM) (w : World) (h : Nst w S g xs) (hx : xs[(atI xs.length pick).toNat]? = some x) (hb : x.bad = true) :
    Calls Try.prog 29 #[.pointer (some ⟨g, 0, none⟩), .int .i64 pick, .int .i64 at_, .int .u32 (m : Int)] w fun e w' => e = .returned (.int .i64 7) ∧ w = w' := by
  have CA := kept (at_any _ xs.length pick w h.len h.2.2.1)
  have hlt := (List.getElem?_eq_some_iff.1 hx).1
  obtain ⟨h1, h2⟩ := at_range pick (show 0 < xs.length by omega)
  obtain ⟨i, hi⟩ : ∃ i : Nat, atI xs.length pick = (i : Int) := ⟨(atI xs.length pick).toNat, by omega⟩
  rw [hi] at CA hx h2
  rw [Int.toNat_natCast] at hx
  obtain ⟨X, c, r, rfl, hg, hr, hgl, hrg, ⟨c0, c1, c2⟩, hl⟩ := h.spot hx
  have h512 := h.2.2.1
  rw [hb] at c2
  have hi2 : (i : Int) < (xs.length : Int) := by omega
  have hi3 : (0 : Int) ≤ (i : Int) := by omega
  clear h hl hx hi
  go_enter Try.func29, Try.ntmps29
  go_wp2_with fail
  refine CA.out.mono ?_
  rintro e w' ⟨rfl, hw'⟩
  subst hw'
  go_wp2
  go_ret
  exact ⟨rfl, rfl⟩
set_option maxRecDepth 100000 in
set_option maxHeartbeats 4000000 in
theorem spoil_at (S : Nat → Prop) (g : Nat) (xs : List OneM) (pick at_ : Int) (m : Nat) (x : OneM) (w : World) (h : Nst w S g xs) (hm : m < 4294967296) (hx : xs[(atI xs.length pick).toNat]? = some x) (hb : x.bad = false) :
    Calls Try.prog 29 #[.pointer (some ⟨g, 0, none⟩), .int .i64 pick, .int .i64 at_, .int .u32 (m : Int)] w fun e w' => e = .returned (.int .i64 0) ∧ ∃ S' A' c', Nst w' S' g (xs.set (atI xs.length pick).toNat ⟨x.to, A', spoilB x.b at_ m, c', decide (x.b ≠ spoilB x.b at_ m)⟩) ∧ Goes S w S' w' := by
  have CA := kept (at_any _ xs.length pick w h.len h.2.2.1)
  have hlt := (List.getElem?_eq_some_iff.1 hx).1
  obtain ⟨h1, h2⟩ := at_range pick (show 0 < xs.length by omega)
  obtain ⟨i, hi⟩ : ∃ i : Nat, atI xs.length pick = (i : Int) := ⟨(atI xs.length pick).toNat, by omega⟩
  rw [hi] at CA hx h2 ⊢
  rw [Int.toNat_natCast] at hx ⊢
  obtain ⟨X, c, r, rfl, hg, hr, hgl, hrg, ⟨c0, c1, c2⟩, hl⟩ := h.spot hx
  have h512 := h.2.2.1
  have hmok := hl.1
  have hil : i < xs.length := by omega
  have hi2 : (i : Int) < (xs.length : Int) := by omega
  have hi3 : (0 : Int) ≤ (i : Int) := by omega
  have hbd : Below w.heap.size w w.drew := (Below.refl _ _).drew
  obtain ⟨tt, A, b, cc, bad⟩ := x
  dsimp only [OneM.msg] at *
  subst hb
  have CS := kept (fun W (hb : Below w.heap.size w W) => spoilB_any A b.length cc b at_ m W rfl (hl.2.1.next hb) hmok.1 hm hmok.2.1)
  have hnok := spoilB_ok hmok at_ m false
  dsimp only at hnok
  have HOLD := kept (fun W (hb : Below w.heap.size w W) => hl.2.1.next hb)
  have hbA := hmok.1
  have hbL := hmok.2.1
  have hnA := hnok.1
  have hnL := hnok.2.1
  generalize spoilB b at_ m = b2 at *
  -- what the store of the new bytes gives
  have HST : Kept (∀ A2 c2 w2, Below w.drew.heap.size w.drew w2 → Own w2 w.drew.heap.size 5 (.slice A2 b2.length c2) (BB b2) → (w2.cell? ⟨g, 0, none⟩ = some (.slice (some ⟨r, 0, none⟩) xs.length c) ∧ w2.cell? ⟨r, i * 3 + 1, none⟩ = some (.slice A b.length cc) ∧ w2.frozen? ⟨r, i * 3 + 1, none⟩ = false ∧ r < w2.heap.size) ∧
      ∃ S', Nst (w2.setCell ⟨r, i * 3 + 1, none⟩ (.slice A2 b2.length c2)) S' g (xs.set i ⟨tt, A2, b2, c2, false⟩) ∧ Goes S w S' (w2.setCell ⟨r, i * 3 + 1, none⟩ (.slice A2 b2.length c2)) ∧ Rd (w2.setCell ⟨r, i * 3 + 1, none⟩ (.slice A2 b2.length c2)) (w2.setCell ⟨r, i * 3 + 1, none⟩ (.slice A2 b2.length c2)).heap.size A (BB b)) := ⟨fun A2 c2 w2 hb2 ho2 => by
    have hb3 : Below w.heap.size w w2 := hbd.trans hb2
    have hN := h.next hb3
    obtain ⟨X', c', r', e', hg', hr', -, -, ⟨-, d1, -⟩, hl'⟩ := hN.spot hx
    have hgw : w2.cell? ⟨g, 0, none⟩ = some (.slice (some ⟨r, 0, none⟩) xs.length c) := (hb3.cell (p := ⟨g, 0, none⟩) hgl).trans hg
    obtain ⟨S', n1, n2, n3, n4, n5⟩ := nst_bytes (n0 := w.heap.size) (c2 := c2) (A2 := A2) hN hx hgw hnok ho2.rd (fun _ a ha => by
      have h9 := (ho2.lt a.block (by rw [ha]; rfl)).1
      exact ⟨fun e => by have h10 := h.2.1 _ e; exact absurd h10 (Nat.not_lt.2 h9), h9⟩)
    exact ⟨⟨hgw, (hb3.cell (p := ⟨r, i * 3 + 1, none⟩) hr).trans c1, n4, Nat.lt_of_lt_of_le hr hb3.size⟩, S', n1, ⟨(Upd.of_below hb3).trans n2, n3⟩, n5⟩⟩
  have hxi : i < xs.length := hil
  clear h hl hx hi
  go_enter Try.func29, Try.ntmps29
  go_wp2_with fail
  refine CA.out.mono ?_
  rintro e w' ⟨rfl, hw'⟩
  subst hw'
  go_upto_region 7 with fail
  go_cut [] (fun wx => ∃ S' A2 c2, Kept (Nst wx S' g (xs.set i ⟨tt, A2, b2, c2, false⟩) ∧ Goes S w S' wx ∧ Rd wx wx.heap.size A (BB b)))
  case first =>
    go_region_law (go_simp; go_at_call 48; refine (CS.out _ (by assumption)).mono ?_; rintro en w2 ⟨A2, c2, rfl, ho2, hb2⟩; obtain ⟨⟨q1, q2, q3, q4⟩, q5⟩ := HST.out A2 c2 w2 hb2 ho2; have HQ := kept q5; clear q5 ho2 hb2)
    all_goals (go_wp2; go_meet)
    all_goals
      obtain ⟨S', n1, n2, n3⟩ := HQ.out
      exact ⟨S', A2, _, ⟨n1, n2, n3⟩⟩
  case rest =>
    obtain ⟨S', A2, c2, HQ⟩ := hcut
    obtain ⟨n1, n2, n3⟩ := HQ.out
    obtain ⟨w2, rfl⟩ : ∃ w2 : World, w2 = wc := ⟨_, rfl⟩
    have hxi2 : (xs.set i (⟨tt, A2, b2, c2, false⟩ : OneM))[i]? = some ⟨tt, A2, b2, c2, false⟩ := List.getElem?_set_self hil
    obtain ⟨X3, c3', r3, rfl, hg3, hr3, hgl3, -, ⟨d0, d1, d2⟩, hl3⟩ := n1.spot hxi2
    rw [List.length_set] at hg3
    dsimp only at d0 d1 d2
    have hbd2 : Below w2.heap.size w2 w2.drew := (Below.refl _ _).drew
    have HBAD := kept (fun q v => nst_bad (n1.drewN q) hxi2 (show (w2.drewN q).cell? ⟨g, 0, none⟩ = _ by rw [List.length_set]; exact hg3) v)
    have hfz : w2.frozen? ⟨r3, i * 3 + 2, none⟩ = false := (HBAD.out 0 true).2.2
    have CE := kept (fun q => bequal_any w2.heap.size w2.heap.size A A2 b.length b2.length cc c2 b b2 (w2.drewN q) rfl rfl (n3.drewN q) (hl3.2.1.drewN q) (by omega))
    have hse : (xs.set i (⟨tt, A2, b2, c2, false⟩ : OneM)).set i ⟨tt, A2, b2, c2, decide (b ≠ b2)⟩ = xs.set i ⟨tt, A2, b2, c2, decide (b ≠ b2)⟩ := List.set_set ..
    have HSE := kept hse
    have HN2 := kept n2
    have hdec : decide (b ≠ b2) = !decide (b = b2) := by by_cases e : b = b2 <;> simp [e]
    rw [hdec] at HSE
    have HDEC := kept hdec
    generalize decide (b = b2) = eq at *
    clear n1 n2 n3 HQ hl3 hse hdec hg c0 c1 CS HST
    go_wp2_with fail
    go_region_law (go_simp; go_at_call 49; refine (CE.out _).mono ?_; rintro en w3 ⟨rfl, q, rfl⟩)
    all_goals
      go_wp2
      go_ret
      obtain ⟨z1, z2, -⟩ := HBAD.out (1 + q) (!eq)
      rw [HSE.out] at z1
      exact ⟨rfl, S', A2, c2, by rw [HDEC.out]; exact z1, Goes.trans HN2.out ⟨(show Upd S' w2 (w2.drewN (1 + q)) from (Upd.refl S' w2).drewN _).trans z2, fun _ e => .inl e⟩⟩
end Go.Proofs.Ytpckfnafcmifpaa.Net
