/- Layer 36 (net): Take. -/
import Derived.Test.YtpckfnafcmifpaaNetDel
namespace Go.Proofs.Ytpckfnafcmifpaa.Net
open Go.RowKit Go.Proofs.Ytpckfnafcmifpaa.Mem

/-- a store that leaves the row's block and the object's own: the messages lie as they lay -/
theorem lies_upd {w w' : World} {S T : Nat → Prop} {g : Nat} {X Y : Option Addr} {x : OneM} (h : x.Lies w S g X) (hY : ∀ y, Y = some y → ∃ z, X = some z ∧ z.block = y.block) (hu : Upd T w w') (hT : ∀ k, T k → k = g ∨ ∃ z, X = some z ∧ z.block = k) : x.Lies w' S g Y := by
  obtain ⟨a1, a2, a3⟩ := h
  refine ⟨a1, (a2.updN hu (Nat.le_refl _) fun a ha hne e => ?_).more hu.size, fun hne a ha => ⟨(a3 hne a ha).1, (a3 hne a ha).2.1, fun y hy e => ?_⟩⟩
  · rcases hT _ e with h1 | ⟨z, hz, h1⟩
    · exact (a3 hne a ha).2.1 h1
    · exact (a3 hne a ha).2.2 z hz h1.symm
  · obtain ⟨z, hz, h1⟩ := hY y hy
    exact (a3 hne a ha).2.2 z hz (e.trans h1.symm)
theorem nst_del {w w3 : World} {S : Nat → Prop} {g r i n c : Nat} {xs : List OneM} (h : Nst w S g xs) (hX : w.cell? ⟨g, 0, none⟩ = some (.slice (some ⟨r, 0, none⟩) xs.length c)) (hn : n = (xs.eraseIdx i).length) (ho : oneE.Own w3 0 98 (.slice (some ⟨r, 0, none⟩) n c) (xs.eraseIdx i)) (hu : Upd (fun k => k = r) w w3) :
    (w3.cell? ⟨g, 0, none⟩ = some (.slice (some ⟨r, 0, none⟩) xs.length c) ∧ w3.frozen? ⟨g, 0, none⟩ = false ∧ g < w3.heap.size) ∧
    Nst (w3.setCell ⟨g, 0, none⟩ (.slice (some ⟨r, 0, none⟩) n c)) S g (xs.eraseIdx i) ∧ Upd (fun k => k = r ∨ k = g) w (w3.setCell ⟨g, 0, none⟩ (.slice (some ⟨r, 0, none⟩) n c)) ∧ S r ∧ S g ∧ r < w.heap.size ∧ g < w.heap.size := by
  subst hn
  obtain ⟨h1, h2, h3, X', c', h5, h6, h7, h8⟩ := h
  have hk0 : w.cell? ⟨g, 0, none⟩ = some (.slice X' xs.length c') := h5.cell rfl
  rw [hk0] at hX
  injection hX with hX
  injection hX with e1 e2 e3
  subst e1 e3
  obtain ⟨hrS, hrg⟩ := h7 _ rfl
  dsimp only at hrS hrg
  have hk3 := h5.upd hu fun e => hrg e.symm
  have hV : Upd (fun k => k = g) w3 (w3.setCell ⟨g, 0, none⟩ (.slice (some ⟨r, 0, none⟩) (xs.eraseIdx i).length c')) := (Upd.refl (fun k => k = g) w3).setCell (p := ⟨g, 0, none⟩) (.inl rfl) _
  have hUV : Upd (fun k => k = r ∨ k = g) w (w3.setCell ⟨g, 0, none⟩ (.slice (some ⟨r, 0, none⟩) (xs.eraseIdx i).length c')) := (hu.mono fun _ _ e => .inl e).setCell (p := ⟨g, 0, none⟩) (.inl (.inr rfl)) _
  refine ⟨⟨hk3.cell rfl, hk3.frozen 0, hk3.lt⟩, ⟨h1, fun k hk => Nat.lt_of_lt_of_le (h2 k hk) hUV.size, Nat.le_trans (List.length_eraseIdx_le _ _) h3, _, c', hk3.set 0 _, ho.upd hV fun k hk e => ?_, h7, fun x hx => lies_upd (h8 x (List.mem_of_mem_eraseIdx hx)) (fun y hy => ⟨_, hy, rfl⟩) hUV fun k hk => ?_⟩, hUV, hrS, h1, h2 _ hrS, h2 _ h1⟩
  · have hkr : k = r := (Option.some.inj hk).symm
    exact hrg (hkr.symm.trans e)
  · rcases hk with e | e
    · exact .inr ⟨_, rfl, e.symm⟩
    · exact .inl e
theorem take_no (p : Value) (pick : Int) (w : World) (h : NLen w p 0) : Calls Try.prog 25 #[p, .int .i64 pick] w fun e w' => e = .returned (.tuple #[.int .i64 0, .slice none 0 0, .bool false]) ∧ w = w' := by
  have C := kept (look_no p pick w h)
  go_enter Try.func25, Try.ntmps25
  go_wp2_with fail
  refine C.out.mono ?_
  rintro e w' ⟨rfl, hw'⟩
  subst hw'
  go_wp2
  go_ret3
  exact ⟨rfl, rfl⟩
/-- what was taken -/
def TakesAt (S : Nat → Prop) (g : Nat) (w : World) (m : MsgM) (ys : List OneM) (e : Ending) (w' : World) : Prop :=
  ∃ A c, e = .returned (.tuple #[.int .i64 m.to, .slice A m.b.length c, .bool true]) ∧ Own w' w.heap.size 5 (.slice A m.b.length c) (BB m.b) ∧ m.b.length ≤ c ∧ Nst w' S g ys ∧ Upd S w w'
set_option maxRecDepth 100000 in
theorem take_at (S : Nat → Prop) (g : Nat) (xs : List OneM) (pick : Int) (x : OneM) (w : World) (h : Nst w S g xs) (hx : xs[(atI xs.length pick).toNat]? = some x) :
    Calls Try.prog 25 #[.pointer (some ⟨g, 0, none⟩), .int .i64 pick] w (TakesAt S g w x.msg (xs.eraseIdx (atI xs.length pick).toNat)) := by
  have CL := kept (look_at S g xs pick x w h hx)
  have CA := kept (fun W (hb : Below w.heap.size w W) => at_any _ xs.length pick W (h.next hb).len h.2.2.1)
  have hlt := (List.getElem?_eq_some_iff.1 hx).1
  obtain ⟨h1, h2⟩ := at_range pick (show 0 < xs.length by omega)
  obtain ⟨i, hi⟩ : ∃ i : Nat, atI xs.length pick = (i : Int) := ⟨(atI xs.length pick).toNat, by omega⟩
  rw [hi] at CA hx h2 ⊢
  rw [Int.toNat_natCast] at hx ⊢
  obtain ⟨X, c, r, rfl, hg, hr, hgl, hrg, -, -⟩ := h.spot hx
  have h512 := h.2.2.1
  obtain ⟨m, hm⟩ : ∃ m, xs.length = i + 1 + m := ⟨xs.length - (i + 1), by omega⟩
  have hel : i + m = (xs.eraseIdx i).length := by rw [List.length_eraseIdx, if_pos (by omega)]; omega
  have HP := kept h
  have HS := kept h.2.1
  have HEL := kept hel
  have hcd : Kept (∀ W, Below w.heap.size w W → Calls Try.prog 47 #[.slice (some ⟨r, 0, none⟩) (i + 1 + m) c, .int .i64 (i : Int), .int .i64 ((i : Int) + 1)] W fun e w' => e = .returned (.slice (some ⟨r, 0, none⟩) (i + m) c) ∧ oneE.Own w' 0 98 (.slice (some ⟨r, 0, none⟩) (i + m) c) (xs.eraseIdx i) ∧ Upd (fun k => k = r) W w') := ⟨fun W hb => by
    obtain ⟨-, -, -, X', c', h5, h6, -⟩ := h.next hb
    have hk0 : w.cell? ⟨g, 0, none⟩ = some (.slice X' xs.length c') := by rw [← hb.cell (p := ⟨g, 0, none⟩) hgl]; exact h5.cell rfl
    rw [hk0] at hg
    injection hg with hg
    injection hg with e1 e2 e3
    subst e1 e3
    rw [hm] at h6
    exact del_at r i m c' xs W hm h6 h512⟩
  have HG : Kept (∀ W, Below w.heap.size w W → W.cell? ⟨g, 0, none⟩ = some (.slice (some ⟨r, 0, none⟩) (i + 1 + m) c) ∧ g < W.heap.size) := ⟨fun W hb => ⟨by rw [← hm]; exact (hb.cell (p := ⟨g, 0, none⟩) hgl).trans hg, Nat.lt_of_lt_of_le hgl hb.size⟩⟩
  have HND := kept (fun (w2 w3 : World) (hb : Below w.heap.size w w2) (ho : oneE.Own w3 0 98 (.slice (some ⟨r, 0, none⟩) (i + m) c) (xs.eraseIdx i)) (hu : Upd (fun k => k = r) w2 w3) => nst_del (HP.out.next hb) ((hb.cell (p := ⟨g, 0, none⟩) hgl).trans hg) HEL.out ho hu)
  rw [hm] at HND
  obtain ⟨to, A, b, cc, bad⟩ := x
  unfold LooksAt at CL
  dsimp only [OneM.msg] at CL ⊢
  clear h hx hi hel hg
  go_enter Try.func25, Try.ntmps25
  go_wp2_with fail
  refine CL.out.mono ?_
  rintro e w2 ⟨A2, c2, rfl, ho2, hc2, hb2⟩
  have HO2 := kept ho2
  have HB2 := kept hb2
  obtain ⟨g2, gl2⟩ := HG.out _ hb2
  clear ho2 hb2 CL
  go_wp2_with fail
  refine (CA.out _ HB2.out).mono ?_
  rintro e w' ⟨rfl, hw'⟩
  subst hw'
  go_wp2_with fail
  refine (hcd.out _ HB2.out).mono ?_
  rintro e w3 ⟨rfl, ho3, hu3⟩
  obtain ⟨⟨g3, f3, l3⟩, hN, hU, hrS, hgS, -, -⟩ := HND.out _ _ HB2.out ho3 hu3
  have HN := kept hN
  have HU := kept hU
  clear ho3 hu3 hN hU g2 gl2
  go_wp2
  go_ret3
  refine ⟨A2, c2, rfl, HO2.out.upd HU.out fun k hk e => ?_, hc2, HN.out, (Upd.of_below HB2.out).trans (HU.out.mono fun k _ e => ?_)⟩
  · have := (HO2.out.lt k hk).1
    rcases e with e | e <;> omega
  · rcases e with e | e
    · rw [e]; exact hrS
    · rw [e]; exact hgS
end Go.Proofs.Ytpckfnafcmifpaa.Net
