/- Plain mathematics of layer 24, continued: what a journal's disk holds, call by call, and behind a crash. No program in sight. -/
import Derived.Test.YtdlghabpnpbebaaDoorJrnMath
import Derived.Test.YtdlghabpnpbebaaDoorDiskSureMath
namespace Go.Proofs.YtdlghabpnpbebaaDoor.Jrn
open Go.Proofs.YtdlghabpnpbebaaDoor.Mem Go.Proofs.YtdlghabpnpbebaaDoor.Num Go.Proofs.YtdlghabpnpbebaaDoor.Wal Go.Proofs.YtdlghabpnpbebaaDoor.Disk Go.Proofs.YtdlghabpnpbebaaDoor.Pack

/-- what a disk holds: a file's bytes and how much is sure, and the other file's -/
structure Has (d : DS) (f : Int) (x : List Nat) (sx : Nat) (y : List Nat) (sy : Nat) : Prop where
  f01 : f = 0 ∨ f = 1
  bx : d.b f = x
  s_x : d.s f = sx
  b_y : d.b (1 - f) = y
  s_y : d.s (1 - f) = sy
theorem Has.swap {d : DS} {f : Int} {x y : List Nat} {sx sy : Nat} (h : Has d f x sx y sy) : Has d (1 - f) y sy x sx := by
  have h0 := h.f01
  have e : 1 - (1 - f) = f := by omega
  exact ⟨by omega, h.b_y, h.s_y, by rw [e]; exact h.bx, by rw [e]; exact h.s_x⟩
theorem Has.used {d : DS} {f : Int} {x y : List Nat} {sx sy : Nat} (h : Has d f x sx y sy) : d.used = x.length + y.length := by
  have h1 := h.bx
  have h2 := h.b_y
  unfold DS.used
  rcases h.f01 with rfl | rfl
  · unfold DS.b at h1 h2; rw [if_pos rfl] at h1; rw [if_neg (by decide)] at h2; rw [h1, h2]
  · unfold DS.b at h1 h2; rw [if_neg (by decide)] at h1; rw [if_pos (by decide)] at h2; rw [h1, h2, Nat.add_comm]
theorem Has.of_eq {d d' : DS} {f : Int} {x y : List Nat} {sx sy : Nat} (h : Has d f x sx y sy) (e : d'.b0 = d.b0 ∧ d'.b1 = d.b1 ∧ d'.s0 = d.s0 ∧ d'.s1 = d.s1) : Has d' f x sx y sy := by
  obtain ⟨e1, e2, e3, e4⟩ := e
  have hb : ∀ f, d'.b f = d.b f := fun f => by unfold DS.b; rw [e1, e2]
  have hs : ∀ f, d'.s f = d.s f := fun f => by unfold DS.s; rw [e3, e4]
  exact ⟨h.f01, by rw [hb]; exact h.bx, by rw [hs]; exact h.s_x, by rw [hb]; exact h.b_y, by rw [hs]; exact h.s_y⟩
theorem Has.burn {d : DS} {f : Int} {x y : List Nat} {sx sy : Nat} (h : Has d f x sx y sy) : Has d.burn f x sx y sy :=
  h.of_eq ⟨(burn_b d).1, (burn_b d).2.1, (burn_b d).2.2.1, (burn_b d).2.2.2.1⟩
theorem Has.put {d : DS} {f : Int} {x y : List Nat} {sx sy : Nat} (h : Has d f x sx y sy) (l : List Nat) (n : Nat) : Has (d.put f l n) f l n y sy := by
  have h1 := h.b_y
  have h2 := h.s_y
  rcases h.f01 with rfl | rfl
  · exact ⟨.inl rfl, rfl, rfl, by rw [← h1]; rfl, by rw [← h2]; rfl⟩
  · exact ⟨.inr rfl, rfl, rfl, by rw [← h1]; rfl, by rw [← h2]; rfl⟩
/-- a disk that does not go down -/
def Calm (d : DS) : Prop := d.down = false ∧ d.fuse = -1
theorem calm_burn {d : DS} (h : Calm d) : Calm d.burn := by
  obtain ⟨h1, h2⟩ := h
  unfold DS.burn
  rw [if_neg (by rw [h2]; decide), if_neg (by rw [h1]; decide)]
  exact ⟨h1, by show max (d.fuse - 1) (-1) = -1; rw [h2]; decide⟩
theorem calm_put {d : DS} (h : Calm d) (f : Int) (l : List Nat) (n : Nat) : Calm (d.put f l n) := by
  unfold DS.put; split <;> exact h
theorem room_put (d : DS) (f : Int) (l : List Nat) (n : Nat) : (d.put f l n).room = d.room := by unfold DS.put; split <;> rfl
/-- what a write, or a cut, leaves -/
structure Went (d : DS) (r : DS × Nat) (P Q : DS → Prop) : Prop where
  room : r.1.room = d.room
  calm : Calm d → r.2 = 0 ∧ Calm r.1
  way : (r.2 = 0 ∧ P r.1) ∨ (r.2 = 14 ∧ Q r.1)
theorem app_went {d : DS} {f : Int} {x y : List Nat} {sx sy : Nat} (h : Has d f x sx y sy) (l : List Nat) (hr : x.length + y.length + l.length ≤ d.room) :
    Went d (d.appM f l) (fun e => Has e f (x ++ l) sx y sy) (fun e => Has e f x sx y sy) := by
  have hb := h.burn
  have hu := hb.used
  have hrm := (burn_b d).2.2.2.2
  unfold DS.appM
  rw [if_pos (isF_01 h.f01)]
  by_cases hd : d.burn.down = true
  · rw [if_pos hd]
    exact ⟨hrm, fun hc => absurd (calm_burn hc).1 (by rw [hd]; decide), .inr ⟨rfl, hb⟩⟩
  · rw [if_neg hd, if_neg (by rw [hu, hrm]; omega), hb.bx, hb.s_x]
    exact ⟨by rw [room_put]; exact hrm, fun hc => ⟨rfl, calm_put (calm_burn hc) _ _ _⟩, .inl ⟨rfl, hb.put _ _⟩⟩
theorem sync_went {d : DS} {f : Int} {x y : List Nat} {sx sy : Nat} (h : Has d f x sx y sy) :
    Went d (d.syncM f) (fun e => Has e f x x.length y sy) (fun e => Has e f x sx y sy) := by
  have hb := h.burn
  have hrm := (burn_b d).2.2.2.2
  unfold DS.syncM
  rw [if_pos (isF_01 h.f01)]
  by_cases hd : d.burn.down = true
  · rw [if_pos hd]
    exact ⟨hrm, fun hc => absurd (calm_burn hc).1 (by rw [hd]; decide), .inr ⟨rfl, hb⟩⟩
  · rw [if_neg hd, hb.bx]
    exact ⟨by rw [room_put]; exact hrm, fun hc => ⟨rfl, calm_put (calm_burn hc) _ _ _⟩, .inl ⟨rfl, hb.put _ _⟩⟩
theorem cut_went {d : DS} {f : Int} {x y : List Nat} {sx sy : Nat} (h : Has d f x sx y sy) {n : Nat} (hn : n ≤ x.length) :
    Went d (d.cutM f (n : Int)) (fun e => Has e f (x.take n) n y sy) (fun e => Has e f x sx y sy) := by
  have hb := h.burn
  have hrm := (burn_b d).2.2.2.2
  unfold DS.cutM
  rw [if_pos ⟨isF_01 h.f01, by omega, by rw [h.bx]; omega⟩]
  by_cases hd : d.burn.down = true
  · rw [if_pos hd]
    exact ⟨hrm, fun hc => absurd (calm_burn hc).1 (by rw [hd]; decide), .inr ⟨rfl, hb⟩⟩
  · rw [if_neg hd, hb.bx, Int.toNat_natCast]
    exact ⟨by rw [room_put]; exact hrm, fun hc => ⟨rfl, calm_put (calm_burn hc) _ _ _⟩, .inl ⟨rfl, hb.put _ _⟩⟩
theorem write_went {d : DS} {f : Int} {x y : List Nat} {sx sy : Nat} (h : Has d f x sx y sy) (l : List Nat) (hr : x.length + y.length + l.length ≤ d.room) :
    Went d (writeM d f l) (fun e => Has e f (x ++ l) (x ++ l).length y sy) (fun e => Has e f x sx y sy ∨ Has e f (x ++ l) sx y sy) := by
  obtain ⟨r1, c1, w1⟩ := app_went h l hr
  unfold writeM
  rcases w1 with ⟨e0, h1⟩ | ⟨e0, h1⟩
  · rw [if_neg (by rw [e0]; decide)]
    obtain ⟨r2, c2, w2⟩ := sync_went h1
    refine ⟨r2.trans r1, fun hc => c2 (c1 hc).2, ?_⟩
    rcases w2 with ⟨e2, h2⟩ | ⟨e2, h2⟩
    · exact .inl ⟨e2, h2⟩
    · exact .inr ⟨e2, .inr h2⟩
  · rw [if_pos (by rw [e0]; decide)]
    exact ⟨r1, c1, .inr ⟨e0, .inl h1⟩⟩
theorem empty_went {d : DS} {f : Int} {x y : List Nat} {sx sy : Nat} (h : Has d f x sx y sy) (hs : x = [] → sx = 0) :
    Went d (emptyM d f) (fun e => Has e f [] 0 y sy) (fun e => Has e f x sx y sy) := by
  unfold emptyM
  rw [h.bx]
  by_cases hx : x = []
  · rw [if_pos hx]
    have := hs hx
    subst hx this
    exact ⟨rfl, fun hc => ⟨rfl, hc⟩, .inl ⟨rfl, h⟩⟩
  · rw [if_neg hx]
    have := cut_went h (n := 0) (Nat.zero_le _)
    exact ⟨this.room, this.calm, by simpa using this.way⟩
/-! what is told of bytes -/
theorem scan_of {l : List (List Nat)} {q : List Nat} (hl : (recsB l ++ q).length < 18446744073709551616) (hn : oneM q = none) : scanM (recsB l ++ q) = l :=
  (scans_of hl hn (scanM_scans _)).1
theorem headN_recs (g : Nat) (s : List Nat) (r : List (List Nat)) : headN g s ++ recsB r = recsB ((numB g ++ s) :: r) := by simp [headN, recsB]
theorem look_of {g : Nat} {s q : List Nat} {r : List (List Nat)} (hg : 0 < g ∧ g < 18446744073709551616) (hl : (headN g s ++ recsB r ++ q).length < 18446744073709551616) (hn : oneM q = none) :
    look (headN g s ++ recsB r ++ q) = ⟨g, s, r, (headN g s ++ recsB r).length⟩ := by
  rw [headN_recs] at hl ⊢
  unfold look
  rw [scan_of hl hn]
  show lookH (numB g ++ s) r _ = _
  unfold lookH
  obtain ⟨h1, h2⟩ := num_back hg.2 s
  rw [h1, h2, if_neg (by omega)]
  have : (numB g ++ s).drop ((numB g ++ s).length - s.length) = s := by
    rw [List.length_append, Nat.add_sub_cancel, List.drop_left]
  dsimp only
  rw [this]
theorem look_none {q : List Nat} (hl : q.length < 18446744073709551616) (hn : oneM q = none) : look q = zeroF := by
  have : scanM q = [] := scan_of (l := []) (by simpa [recsB] using hl) hn
  unfold look
  rw [this]
  rfl
theorem look_nil : look [] = zeroF := look_none (by decide) one_nil
/-! Open -/
theorem pick_has {d : DS} {f : Int} {x y : List Nat} {sx sy : Nat} (h : Has d f x sx y sy) (hy : (look y).gen < (look x).gen) : pick d = (f, look x) := by
  have h1 := h.bx
  have h2 := h.b_y
  unfold pick
  rcases h.f01 with rfl | rfl
  · have e0 : d.b0 = x := h1
    have e1 : d.b1 = y := h2
    rw [e0, e1, if_neg (by omega)]
  · have e0 : d.b1 = x := h1
    have e1 : d.b0 = y := h2
    rw [e0, e1, if_pos hy]
/-- the journal's own bytes -/
def JB (g : Nat) (s : List Nat) (r : List (List Nat)) : List Nat := headN g s ++ recsB r
theorem jb_snoc (g : Nat) (s : List Nat) (r : List (List Nat)) (a : List Nat) : JB g s (r ++ [a]) = JB g s r ++ recB a := by
  unfold JB; rw [recsB_snoc, List.append_assoc]
/-- opened, with all in order: nothing is done -/
theorem open_same {d : DS} {f : Int} {g sx sy : Nat} {s : List Nat} {r : List (List Nat)} (hg : 0 < g ∧ g < 18446744073709551616) (hl : (JB g s r).length < 18446744073709551616) (h : Has d f (JB g s r) sx [] sy) :
    openM d = (⟨d, f, g⟩, 0) ∧ pick d = (f, ⟨g, s, r, (JB g s r).length⟩) := by
  have hx : look (JB g s r) = ⟨g, s, r, (JB g s r).length⟩ := by
    have := look_of (q := []) (s := s) (r := r) hg (by rw [List.append_nil]; exact hl) one_nil
    rw [List.append_nil] at this
    exact this
  have hp := pick_has h (by rw [look_nil, hx]; exact hg.1)
  rw [hx] at hp
  refine ⟨?_, hp⟩
  unfold openM cleanM clean2 emptyM open2
  rw [hp]
  dsimp only
  rw [h.bx, if_neg (Nat.lt_irrefl _)]
  dsimp only
  rw [if_neg (show ¬ ((0 : Nat) ≠ 0) by decide), h.b_y, if_pos rfl, if_neg (by omega)]
/-- opened behind a crash -/
theorem open_calm {d : DS} {f : Int} {g sx sy : Nat} {s q y : List Nat} {r : List (List Nat)} (hc : Calm d) (hg : 0 < g ∧ g < 18446744073709551616) (hl : (JB g s r ++ q).length < 18446744073709551616) (h : Has d f (JB g s r ++ q) sx y sy) (hn : oneM q = none) (hy : (look y).gen < g) (hs : y = [] → sy = 0) :
    (openM d).2 = 0 ∧ (openM d).1.file = f ∧ (openM d).1.gen = g ∧ pick d = (f, ⟨g, s, r, (JB g s r).length⟩) ∧ Has (openM d).1.d f (JB g s r) (openM d |>.1.d.s f) [] 0 ∧ Calm (openM d).1.d ∧ (openM d).1.d.room = d.room := by
  have hx : look (JB g s r ++ q) = ⟨g, s, r, (JB g s r).length⟩ := look_of (q := q) (s := s) (r := r) hg hl hn
  have hp := pick_has h (by rw [hx]; exact hy)
  rw [hx] at hp
  have hk : (JB g s r).length ≤ (JB g s r ++ q).length := by rw [List.length_append]; omega
  have key : ∃ d1 sx1, (if (JB g s r).length < (d.b f).length then d.cutM f ((JB g s r).length : Nat) else (d, 0)) = (d1, 0) ∧ Has d1 f (JB g s r) sx1 y sy ∧ Calm d1 ∧ d1.room = d.room := by
    rw [h.bx]
    by_cases hlt : (JB g s r).length < (JB g s r ++ q).length
    · rw [if_pos hlt]
      obtain ⟨h1, h2, h3⟩ := cut_went h hk
      obtain ⟨h4, h5⟩ := h2 hc
      rcases h3 with ⟨e3, h3⟩ | ⟨e3, _⟩
      · rw [List.take_left] at h3
        exact ⟨_, _, Prod.ext rfl h4, h3, h5, h1⟩
      · rw [h4] at e3; cases e3
    · rw [if_neg hlt]
      have hq : q = [] := List.eq_nil_of_length_eq_zero (by rw [List.length_append] at hlt; omega)
      subst hq
      rw [List.append_nil] at h
      exact ⟨d, sx, rfl, h, hc, rfl⟩
  obtain ⟨d1, sx1, e1, h1, c1, r1⟩ := key
  obtain ⟨r2, k2, w2⟩ := empty_went h1.swap hs
  obtain ⟨e2, c2⟩ := k2 c1
  rcases w2 with ⟨_, h2⟩ | ⟨e3, _⟩
  · have h3 := h2.swap
    rw [show 1 - (1 - f) = f by omega] at h3
    have ho : openM d = (⟨(emptyM d1 (1 - f)).1, f, g⟩, 0) := by
      unfold openM cleanM clean2 open2
      rw [hp]
      dsimp only
      rw [e1]
      dsimp only
      rw [if_neg (show ¬ ((0 : Nat) ≠ 0) by decide), if_neg (by omega), e2]
    rw [ho]
    exact ⟨rfl, rfl, rfl, hp, ⟨h3.f01, h3.bx, rfl, h3.b_y, h3.s_y⟩, c2, r2.trans r1⟩
  · rw [e2] at e3; cases e3
/-- opened for the first time -/
theorem open_first {n : Int} (hn : (headN 1 []).length ≤ roomN n) :
    (openM (newD n)).2 = 0 ∧ (openM (newD n)).1.file = 0 ∧ (openM (newD n)).1.gen = 1 ∧ pick (newD n) = (0, zeroF) ∧ Has (openM (newD n)).1.d 0 (JB 1 [] []) (JB 1 [] []).length [] 0 ∧ Calm (openM (newD n)).1.d ∧ (openM (newD n)).1.d.room = roomN n := by
  have h : Has (newD n) 0 [] 0 [] 0 := ⟨.inl rfl, rfl, rfl, rfl, rfl⟩
  have hc : Calm (newD n) := ⟨rfl, rfl⟩
  have hp : pick (newD n) = (0, zeroF) := by
    unfold pick
    show (if (look []).gen < (look []).gen then _ else ((0 : Int), look [])) = _
    rw [if_neg (Nat.lt_irrefl _), look_nil]
  obtain ⟨r1, k1, w1⟩ := write_went h (headN 1 []) (by show 0 + 0 + _ ≤ roomN n; omega)
  obtain ⟨e1, c1⟩ := k1 hc
  have ho : openM (newD n) = (⟨(writeM (newD n) 0 (headN 1 [])).1, 0, 1⟩, 0) := by
    unfold openM cleanM clean2 emptyM
    rw [hp]
    dsimp only
    rw [if_neg (show ¬ (zeroF.fin < ((newD n).b 0).length) from Nat.lt_irrefl 0)]
    dsimp only
    rw [if_neg (show ¬ ((0 : Nat) ≠ 0) by decide), show (newD n).b (1 - 0) = [] from rfl, if_pos rfl]
    unfold open2
    dsimp only
    rw [if_pos ⟨rfl, rfl⟩, e1]
  rw [ho]
  rcases w1 with ⟨_, h1⟩ | ⟨e3, _⟩
  · refine ⟨rfl, rfl, rfl, hp, ?_, c1, r1⟩
    have e : JB 1 [] [] = [] ++ headN 1 [] := by unfold JB; simp [recsB]
    rw [e]
    exact h1
  · rw [e1] at e3; cases e3
/-! a journal in order -/
structure Good (j : JS) (s : List Nat) (r : List (List Nat)) : Prop where
  has : Has j.d j.file (JB j.gen s r) (JB j.gen s r).length [] 0
  pos : 0 < j.gen
  lt : j.gen < 18446744073709551616
/-- what an opening tells -/
def Told (d : DS) (s : List Nat) (r : List (List Nat)) : Prop := (openM d).2 = 0 ∧ (pick d).2.snap = s ∧ (pick d).2.recs = r
/-- what a crash may leave -/
def Left (d : DS) (s : List Nat) (r : List (List Nat)) (s' : List Nat) (r' : List (List Nat)) : Prop := ∀ keep turn, Told (d.crashM keep turn) s r ∨ Told (d.crashM keep turn) s' r'
theorem crash_sure (x : List Nat) (keep : Int) (t : Bool) : crashB x x.length keep t = x := by
  have : keepN x x.length keep = 0 := by unfold keepN; omega
  unfold crashB
  rw [this]
  simp [Disk.turnL]
theorem crash_has {d : DS} {f : Int} {x y : List Nat} {sx sy : Nat} (h : Has d f x sx y sy) (keep : Int) (t : Bool) : Has (d.crashM keep t) f (crashB x sx keep t) (crashB x sx keep t).length (crashB y sy keep t) (crashB y sy keep t).length ∧ Calm (d.crashM keep t) := by
  obtain ⟨hf, h1, h2, h3, h4⟩ := h
  subst h1 h2 h3 h4
  refine ⟨?_, rfl, rfl⟩
  rcases hf with rfl | rfl
  · exact ⟨.inl rfl, rfl, rfl, rfl, rfl⟩
  · exact ⟨.inr rfl, rfl, rfl, rfl, rfl⟩
theorem turn_eq (t : Bool) (q : List Nat) : Disk.turnL t q = Wal.turnL t q := by
  unfold Disk.turnL Wal.turnL
  cases t with
  | false => rfl
  | true =>
    rw [if_pos rfl, if_pos rfl]
    rcases hr : q.reverse with _ | ⟨x, s⟩
    · have : q = [] := by simpa using hr
      subst this
      rfl
    · have hq : q = s.reverse ++ [x] := by rw [← List.reverse_reverse q, hr]; simp
      subst hq
      simp [List.getD, List.set_append_right]
/-- what a crash leaves of a record under way: all of it, or none -/
theorem crash_rec {a : List Nat} (ha : a.length < 281474976710656) (keep : Int) (t : Bool) : crashB (recB a) 0 keep t = recB a ∨ oneM (crashB (recB a) 0 keep t) = none := by
  have hk := keepN_b (recB a) keep
  unfold crashB
  rw [Nat.zero_add, turn_eq]
  by_cases h : keepN (recB a) 0 keep = (recB a).length ∧ t = false
  · left
    obtain ⟨h1, h2⟩ := h
    rw [h1, h2, List.take_length]
    rfl
  · right
    by_cases h0 : keepN (recB a) 0 keep = 0
    · rw [h0, List.take_zero, turnL_nil]
      exact one_nil
    · have hd : (t && decide (0 < keepN (recB a) 0 keep)) = t := by
        rw [decide_eq_true (by omega), Bool.and_true]
      rw [hd]
      refine one_torn ha hk ?_
      cases t with
      | false => exact .inl (by have : keepN (recB a) 0 keep ≠ (recB a).length := fun e => h ⟨e, rfl⟩; omega)
      | true => exact .inr rfl
theorem crash_nil (keep : Int) (t : Bool) : crashB [] 0 keep t = [] := crash_sure [] keep t
theorem told_of {d : DS} {f : Int} {g sx sy : Nat} {s q y : List Nat} {r : List (List Nat)} (hc : Calm d) (hg : 0 < g ∧ g < 18446744073709551616) (hl : (JB g s r ++ q).length < 18446744073709551616) (h : Has d f (JB g s r ++ q) sx y sy) (hn : oneM q = none) (hy : (look y).gen < g) (hs : y = [] → sy = 0) : Told d s r := by
  obtain ⟨h1, _, _, h4, _⟩ := open_calm hc hg hl h hn hy hs
  exact ⟨h1, by rw [h4], by rw [h4]⟩
theorem told_sure {d : DS} {f : Int} {g : Nat} {s y : List Nat} {r : List (List Nat)} {sy : Nat} (hg : 0 < g ∧ g < 18446744073709551616) (hl : (JB g s r).length < 18446744073709551616) (h : Has d f (JB g s r) (JB g s r).length y sy) (keep : Int) (t : Bool) (hy : (look (crashB y sy keep t)).gen < g) : Told (d.crashM keep t) s r := by
  obtain ⟨h1, hc⟩ := crash_has h keep t
  rw [crash_sure] at h1
  refine told_of (q := []) hc hg (by rw [List.append_nil]; exact hl) (by rw [List.append_nil]; exact h1) one_nil hy (fun e => by rw [e]; rfl)
theorem good_crash {j : JS} {s : List Nat} {r : List (List Nat)} (h : Good j s r) (hl : (JB j.gen s r).length < 18446744073709551616) (keep : Int) (t : Bool) : Told (j.d.crashM keep t) s r :=
  told_sure ⟨h.pos, h.lt⟩ hl h.has keep t (by rw [crash_nil, look_nil]; exact h.pos)
/-- what a call on a journal in order does -/
structure Steps (j : JS) (rr : JS × Nat) (G : Nat) (s : List Nat) (r : List (List Nat)) (s' : List Nat) (r' : List (List Nat)) : Prop where
  room : rr.1.d.room = j.d.room
  calm : Calm j.d → rr.2 = 0 ∧ Calm rr.1.d
  way : (rr.2 = 0 ∧ Good rr.1 s' r' ∧ rr.1.gen = G) ∨ (rr.2 = 14 ∧ Left rr.1.d s r s' r')
theorem add_steps {j : JS} {s : List Nat} {r : List (List Nat)} (h : Good j s r) (a : List Nat) (hr : (JB j.gen s r).length + (recB a).length ≤ j.d.room) (hrm : j.d.room ≤ 1048576) : Steps j (addM j a) j.gen s r s (r ++ [a]) := by
  obtain ⟨r1, k1, w1⟩ := write_went h.has (recB a) (by simp only [List.length_nil]; omega)
  have hg := And.intro h.pos h.lt
  have ha : a.length < 281474976710656 := by have := recB_ge a; omega
  refine ⟨r1, k1, ?_⟩
  rcases w1 with ⟨e1, h1⟩ | ⟨e1, h1⟩
  · left
    refine ⟨e1, ⟨?_, h.pos, h.lt⟩, rfl⟩
    rw [← jb_snoc] at h1
    exact h1
  · right
    refine ⟨e1, fun keep t => ?_⟩
    rcases h1 with h1 | h1
    · exact .inl (told_sure hg (by omega) h1 keep t (by rw [crash_nil, look_nil]; exact h.pos))
    · obtain ⟨h2, hc⟩ := crash_has h1 keep t
      rw [crash_ab, crash_nil] at h2
      rcases crash_rec ha keep t with e | e
      · right
        rw [e, ← jb_snoc] at h2
        exact told_of (q := []) hc hg (by rw [List.append_nil, jb_snoc, List.length_append]; omega) (by rw [List.append_nil]; exact h2) one_nil (by rw [look_nil]; exact h.pos) (fun _ => rfl)
      · left
        have hle : (crashB (recB a) 0 keep t).length ≤ (recB a).length := by rw [crash_len]; exact keepN_b _ _
        exact told_of hc hg (by rw [List.length_append]; omega) h2 e (by rw [look_nil]; exact h.pos) (fun _ => rfl)
theorem look_jb {g : Nat} {s : List Nat} {r : List (List Nat)} (hg : 0 < g ∧ g < 18446744073709551616) (hl : (JB g s r).length < 18446744073709551616) : look (JB g s r) = ⟨g, s, r, (JB g s r).length⟩ := by
  have := look_of (q := []) (s := s) (r := r) hg (by rw [List.append_nil]; exact hl) one_nil
  rw [List.append_nil] at this
  exact this
theorem jb_nil (g : Nat) (s : List Nat) : JB g s [] = headN g s := by unfold JB; simp [recsB]
theorem ck_steps {j : JS} {s : List Nat} {r : List (List Nat)} (h : Good j s r) (a : List Nat) (hg1 : j.gen + 1 < 18446744073709551616) (hr : (JB j.gen s r).length + (headN (j.gen + 1) a).length ≤ j.d.room) (hrm : j.d.room ≤ 1048576) : Steps j (ckM j a) (j.gen + 1) s r a [] := by
  have hn : nextG j.gen = j.gen + 1 := Nat.mod_eq_of_lt hg1
  have hg := And.intro h.pos h.lt
  have hg' : 0 < j.gen + 1 ∧ j.gen + 1 < 18446744073709551616 := ⟨Nat.succ_pos _, hg1⟩
  have hE : emptyM j.d (1 - j.file) = (j.d, 0) := by unfold emptyM; rw [h.has.b_y, if_pos rfl]
  obtain ⟨r1, k1, w1⟩ := write_went h.has.swap (headN (j.gen + 1) a) (by simp only [List.length_nil]; omega)
  rw [List.nil_append] at w1
  have hC : ckM j a = ck3 (writeM j.d (1 - j.file) (headN (j.gen + 1) a)) j := by
    unfold ckM ck2
    rw [hE, hn, if_pos rfl]
  rw [hC]
  have hla : (numB (j.gen + 1) ++ a).length < 281474976710656 := by have := recB_ge (numB (j.gen + 1) ++ a); unfold headN at hr; omega
  have hlx : (JB j.gen s r).length < 18446744073709551616 := by omega
  have hly : (JB (j.gen + 1) a []).length < 18446744073709551616 := by rw [jb_nil]; omega
  generalize hw : writeM j.d (1 - j.file) (headN (j.gen + 1) a) = w at *
  obtain ⟨d2, e2⟩ := w
  have e11 : 1 - (1 - j.file) = j.file := by omega
  unfold ck3
  rw [hn]
  dsimp only at *
  rcases w1 with ⟨he2, h2⟩ | ⟨he2, h2⟩
  · subst he2
    rw [if_neg (show ¬ ((0 : Nat) ≠ 0) by decide)]
    have h3 := h2.swap
    rw [e11] at h3
    obtain ⟨r4, k4, w4⟩ := cut_went h3 (n := 0) (Nat.zero_le _)
    refine ⟨r4.trans r1, fun hc => k4 (k1 hc).2, ?_⟩
    rcases w4 with ⟨e4, h4⟩ | ⟨e4, h4⟩
    · left
      refine ⟨e4, ⟨?_, hg'.1, hg'.2⟩, rfl⟩
      have h5 := h4.swap
      rw [List.take_zero] at h5
      show Has _ (1 - j.file) (JB (j.gen + 1) a []) _ [] 0
      rw [jb_nil]
      exact h5
    · right
      refine ⟨e4, fun keep t => .inr ?_⟩
      have h5 := h4.swap
      rw [← jb_nil] at h5
      exact told_sure hg' hly h5 keep t (by rw [crash_sure, look_jb hg hlx]; exact Nat.lt_succ_self _)
  · subst he2
    rw [if_pos (show ((14 : Nat) ≠ 0) by decide)]
    refine ⟨r1, fun hc => absurd (k1 hc).1 (by decide), .inr ⟨rfl, fun keep t => ?_⟩⟩
    rcases h2 with h2 | h2
    · have h3 := h2.swap
      rw [e11] at h3
      exact .inl (told_sure hg hlx h3 keep t (by rw [crash_nil, look_nil]; exact h.pos))
    · rcases crash_rec hla keep t with e | e
      · right
        obtain ⟨h3, hc⟩ := crash_has h2 keep t
        rw [crash_sure] at h3
        have e' : crashB (headN (j.gen + 1) a) 0 keep t = JB (j.gen + 1) a [] := by rw [jb_nil]; exact e
        rw [e'] at h3
        exact told_of (q := []) hc hg' (by rw [List.append_nil]; exact hly) (by rw [List.append_nil]; exact h3) one_nil (by rw [look_jb hg hlx]; exact Nat.lt_succ_self _) (fun e => by rw [e]; rfl)
      · left
        have h3 := h2.swap
        rw [e11] at h3
        have hle : (crashB (headN (j.gen + 1) a) 0 keep t).length ≤ (headN (j.gen + 1) a).length := by rw [crash_len]; exact keepN_b _ _
        exact told_sure hg hlx h3 keep t (by rw [show crashB (headN (j.gen + 1) a) 0 keep t = crashB (recB (numB (j.gen + 1) ++ a)) 0 keep t from rfl, look_none (by rw [show crashB (recB (numB (j.gen + 1) ++ a)) 0 keep t = crashB (headN (j.gen + 1) a) 0 keep t from rfl]; omega) e]; exact h.pos)
theorem Steps.calm' {j : JS} {rr : JS × Nat} {G : Nat} {s : List Nat} {r : List (List Nat)} {s' : List Nat} {r' : List (List Nat)} (h : Steps j rr G s r s' r') (hc : Calm j.d) : rr.2 = 0 ∧ Calm rr.1.d ∧ Good rr.1 s' r' ∧ rr.1.gen = G := by
  obtain ⟨e, c⟩ := h.calm hc
  rcases h.way with ⟨_, h1, h2⟩ | ⟨h1, _⟩
  · exact ⟨e, c, h1, h2⟩
  · rw [e] at h1; cases h1
theorem first_good {n : Int} (hn : (headN 1 []).length ≤ roomN n) : Good (openM (newD n)).1 [] [] ∧ Calm (openM (newD n)).1.d ∧ (openM (newD n)).2 = 0 ∧ (openM (newD n)).1.gen = 1 ∧ (openM (newD n)).1.d.room = roomN n := by
  obtain ⟨h1, h2, h3, _, h5, h6, h7⟩ := open_first hn
  refine ⟨⟨?_, by rw [h3]; decide, by rw [h3]; decide⟩, h6, h1, h3, h7⟩
  rw [h2, h3]
  exact h5
end Go.Proofs.YtdlghabpnpbebaaDoor.Jrn
