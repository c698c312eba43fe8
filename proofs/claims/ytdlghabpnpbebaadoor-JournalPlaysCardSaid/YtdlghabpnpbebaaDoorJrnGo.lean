import Derived.Test.YtdlghabpnpbebaaDoorJrnMath
import Derived.Test.YtdlghabpnpbebaaDoorDiskSureMath
import Derived.Test.YtdlghabpnpbebaaDoorJrnDo
import Derived.Test.YtdlghabpnpbebaaDoorWalSame
import Derived.Lib.SlBytesConst
import Derived.Test.YtdlghabpnpbebaaDoorElemU
import Derived.Test.YtdlghabpnpbebaaDoorDiskMore
/- Plain mathematics of layer 24, continued: what a journal's disk holds, call by call, and behind a crash. No program in sight. -/
namespace Go.Proofs.YtdlghabpnpbebaaDoor.Jrn
open Go.Proofs.YtdlghabpnpbebaaDoor.Mem Go.Proofs.YtdlghabpnpbebaaDoor.Num Go.Proofs.YtdlghabpnpbebaaDoor.Wal Go.Proofs.YtdlghabpnpbebaaDoor.Disk Go.Proofs.YtdlghabpnpbebaaDoor.Pack

/-- what a disk holds: a file's bytes and how much is sure, and the other file's -/
structure Has (d : DS) (f : Int) (x : List Nat) (sx : Nat) (y : List Nat) (sy : Nat) : Prop where
  f01 : f = 0 ∨ f = 1
  bx : d.b f = x
  s_x : d.s f = sx
  b_y : d.b (1 - f) = y
  s_y : d.s (1 - f) = sy
theorem Has.swap {d : DS} {f : Int} {x y : List Nat} {sx sy : Nat} (h : Has d f x sx y sy) : Has d (1 - f) y sy x sx := by
  have h0 := h.f01
  have e : 1 - (1 - f) = f := by omega
  exact ⟨by omega, h.b_y, h.s_y, by rw [e]; exact h.bx, by rw [e]; exact h.s_x⟩
theorem Has.used {d : DS} {f : Int} {x y : List Nat} {sx sy : Nat} (h : Has d f x sx y sy) : d.used = x.length + y.length := by
  have h1 := h.bx
  have h2 := h.b_y
  unfold DS.used
  rcases h.f01 with rfl | rfl
  · unfold DS.b at h1 h2; rw [if_pos rfl] at h1; rw [if_neg (by decide)] at h2; rw [h1, h2]
  · unfold DS.b at h1 h2; rw [if_neg (by decide)] at h1; rw [if_pos (by decide)] at h2; rw [h1, h2, Nat.add_comm]
theorem Has.of_eq {d d' : DS} {f : Int} {x y : List Nat} {sx sy : Nat} (h : Has d f x sx y sy) (e : d'.b0 = d.b0 ∧ d'.b1 = d.b1 ∧ d'.s0 = d.s0 ∧ d'.s1 = d.s1) : Has d' f x sx y sy := by
  obtain ⟨e1, e2, e3, e4⟩ := e
  have hb : ∀ f, d'.b f = d.b f := fun f => by unfold DS.b; rw [e1, e2]
  have hs : ∀ f, d'.s f = d.s f := fun f => by unfold DS.s; rw [e3, e4]
  exact ⟨h.f01, by rw [hb]; exact h.bx, by rw [hs]; exact h.s_x, by rw [hb]; exact h.b_y, by rw [hs]; exact h.s_y⟩
theorem Has.burn {d : DS} {f : Int} {x y : List Nat} {sx sy : Nat} (h : Has d f x sx y sy) : Has d.burn f x sx y sy :=
  h.of_eq ⟨(burn_b d).1, (burn_b d).2.1, (burn_b d).2.2.1, (burn_b d).2.2.2.1⟩
theorem Has.put {d : DS} {f : Int} {x y : List Nat} {sx sy : Nat} (h : Has d f x sx y sy) (l : List Nat) (n : Nat) : Has (d.put f l n) f l n y sy := by
  have h1 := h.b_y
  have h2 := h.s_y
  rcases h.f01 with rfl | rfl
  · exact ⟨.inl rfl, rfl, rfl, by rw [← h1]; rfl, by rw [← h2]; rfl⟩
  · exact ⟨.inr rfl, rfl, rfl, by rw [← h1]; rfl, by rw [← h2]; rfl⟩
/-- a disk that does not go down -/
def Calm (d : DS) : Prop := d.down = false ∧ d.fuse = -1
theorem calm_burn {d : DS} (h : Calm d) : Calm d.burn := by
  obtain ⟨h1, h2⟩ := h
  unfold DS.burn
  rw [if_neg (by rw [h2]; decide), if_neg (by rw [h1]; decide)]
  exact ⟨h1, by show max (d.fuse - 1) (-1) = -1; rw [h2]; decide⟩
theorem calm_put {d : DS} (h : Calm d) (f : Int) (l : List Nat) (n : Nat) : Calm (d.put f l n) := by
  unfold DS.put; split <;> exact h
theorem room_put (d : DS) (f : Int) (l : List Nat) (n : Nat) : (d.put f l n).room = d.room := by unfold DS.put; split <;> rfl
/-- what a write, or a cut, leaves -/
structure Went (d : DS) (r : DS × Nat) (P Q : DS → Prop) : Prop where
  room : r.1.room = d.room
  calm : Calm d → r.2 = 0 ∧ Calm r.1
  way : (r.2 = 0 ∧ P r.1) ∨ (r.2 = 14 ∧ Q r.1)
theorem app_went {d : DS} {f : Int} {x y : List Nat} {sx sy : Nat} (h : Has d f x sx y sy) (l : List Nat) (hr : x.length + y.length + l.length ≤ d.room) :
    Went d (d.appM f l) (fun e => Has e f (x ++ l) sx y sy) (fun e => Has e f x sx y sy) := by
  have hb := h.burn
  have hu := hb.used
  have hrm := (burn_b d).2.2.2.2
  unfold DS.appM
  rw [if_pos (isF_01 h.f01)]
  by_cases hd : d.burn.down = true
  · rw [if_pos hd]
    exact ⟨hrm, fun hc => absurd (calm_burn hc).1 (by rw [hd]; decide), .inr ⟨rfl, hb⟩⟩
  · rw [if_neg hd, if_neg (by rw [hu, hrm]; omega), hb.bx, hb.s_x]
    exact ⟨by rw [room_put]; exact hrm, fun hc => ⟨rfl, calm_put (calm_burn hc) _ _ _⟩, .inl ⟨rfl, hb.put _ _⟩⟩
theorem sync_went {d : DS} {f : Int} {x y : List Nat} {sx sy : Nat} (h : Has d f x sx y sy) :
    Went d (d.syncM f) (fun e => Has e f x x.length y sy) (fun e => Has e f x sx y sy) := by
  have hb := h.burn
  have hrm := (burn_b d).2.2.2.2
  unfold DS.syncM
  rw [if_pos (isF_01 h.f01)]
  by_cases hd : d.burn.down = true
  · rw [if_pos hd]
    exact ⟨hrm, fun hc => absurd (calm_burn hc).1 (by rw [hd]; decide), .inr ⟨rfl, hb⟩⟩
  · rw [if_neg hd, hb.bx]
    exact ⟨by rw [room_put]; exact hrm, fun hc => ⟨rfl, calm_put (calm_burn hc) _ _ _⟩, .inl ⟨rfl, hb.put _ _⟩⟩
theorem cut_went {d : DS} {f : Int} {x y : List Nat} {sx sy : Nat} (h : Has d f x sx y sy) {n : Nat} (hn : n ≤ x.length) :
    Went d (d.cutM f (n : Int)) (fun e => Has e f (x.take n) n y sy) (fun e => Has e f x sx y sy) := by
  have hb := h.burn
  have hrm := (burn_b d).2.2.2.2
  unfold DS.cutM
  rw [if_pos ⟨isF_01 h.f01, by omega, by rw [h.bx]; omega⟩]
  by_cases hd : d.burn.down = true
  · rw [if_pos hd]
    exact ⟨hrm, fun hc => absurd (calm_burn hc).1 (by rw [hd]; decide), .inr ⟨rfl, hb⟩⟩
  · rw [if_neg hd, hb.bx, Int.toNat_natCast]
    exact ⟨by rw [room_put]; exact hrm, fun hc => ⟨rfl, calm_put (calm_burn hc) _ _ _⟩, .inl ⟨rfl, hb.put _ _⟩⟩
theorem write_went {d : DS} {f : Int} {x y : List Nat} {sx sy : Nat} (h : Has d f x sx y sy) (l : List Nat) (hr : x.length + y.length + l.length ≤ d.room) :
    Went d (writeM d f l) (fun e => Has e f (x ++ l) (x ++ l).length y sy) (fun e => Has e f x sx y sy ∨ Has e f (x ++ l) sx y sy) := by
  obtain ⟨r1, c1, w1⟩ := app_went h l hr
  unfold writeM
  rcases w1 with ⟨e0, h1⟩ | ⟨e0, h1⟩
  · rw [if_neg (by rw [e0]; decide)]
    obtain ⟨r2, c2, w2⟩ := sync_went h1
    refine ⟨r2.trans r1, fun hc => c2 (c1 hc).2, ?_⟩
    rcases w2 with ⟨e2, h2⟩ | ⟨e2, h2⟩
    · exact .inl ⟨e2, h2⟩
    · exact .inr ⟨e2, .inr h2⟩
  · rw [if_pos (by rw [e0]; decide)]
    exact ⟨r1, c1, .inr ⟨e0, .inl h1⟩⟩
theorem empty_went {d : DS} {f : Int} {x y : List Nat} {sx sy : Nat} (h : Has d f x sx y sy) (hs : x = [] → sx = 0) :
    Went d (emptyM d f) (fun e => Has e f [] 0 y sy) (fun e => Has e f x sx y sy) := by
  unfold emptyM
  rw [h.bx]
  by_cases hx : x = []
  · rw [if_pos hx]
    have := hs hx
    subst hx this
    exact ⟨rfl, fun hc => ⟨rfl, hc⟩, .inl ⟨rfl, h⟩⟩
  · rw [if_neg hx]
    have := cut_went h (n := 0) (Nat.zero_le _)
    exact ⟨this.room, this.calm, by simpa using this.way⟩
/-! what is told of bytes -/
theorem scan_of {l : List (List Nat)} {q : List Nat} (hl : (recsB l ++ q).length < 18446744073709551616) (hn : oneM q = none) : scanM (recsB l ++ q) = l :=
  (scans_of hl hn (scanM_scans _)).1
theorem headN_recs (g : Nat) (s : List Nat) (r : List (List Nat)) : headN g s ++ recsB r = recsB ((numB g ++ s) :: r) := by simp [headN, recsB]
theorem look_of {g : Nat} {s q : List Nat} {r : List (List Nat)} (hg : 0 < g ∧ g < 18446744073709551616) (hl : (headN g s ++ recsB r ++ q).length < 18446744073709551616) (hn : oneM q = none) :
    look (headN g s ++ recsB r ++ q) = ⟨g, s, r, (headN g s ++ recsB r).length⟩ := by
  rw [headN_recs] at hl ⊢
  unfold look
  rw [scan_of hl hn]
  show lookH (numB g ++ s) r _ = _
  unfold lookH
  obtain ⟨h1, h2⟩ := num_back hg.2 s
  rw [h1, h2, if_neg (by omega)]
  have : (numB g ++ s).drop ((numB g ++ s).length - s.length) = s := by
    rw [List.length_append, Nat.add_sub_cancel, List.drop_left]
  dsimp only
  rw [this]
theorem look_none {q : List Nat} (hl : q.length < 18446744073709551616) (hn : oneM q = none) : look q = zeroF := by
  have : scanM q = [] := scan_of (l := []) (by simpa [recsB] using hl) hn
  unfold look
  rw [this]
  rfl
theorem look_nil : look [] = zeroF := look_none (by decide) one_nil
/-! Open -/
theorem pick_has {d : DS} {f : Int} {x y : List Nat} {sx sy : Nat} (h : Has d f x sx y sy) (hy : (look y).gen < (look x).gen) : pick d = (f, look x) := by
  have h1 := h.bx
  have h2 := h.b_y
  unfold pick
  rcases h.f01 with rfl | rfl
  · have e0 : d.b0 = x := h1
    have e1 : d.b1 = y := h2
    rw [e0, e1, if_neg (by omega)]
  · have e0 : d.b1 = x := h1
    have e1 : d.b0 = y := h2
    rw [e0, e1, if_pos hy]
/-- the journal's own bytes -/
def JB (g : Nat) (s : List Nat) (r : List (List Nat)) : List Nat := headN g s ++ recsB r
theorem jb_snoc (g : Nat) (s : List Nat) (r : List (List Nat)) (a : List Nat) : JB g s (r ++ [a]) = JB g s r ++ recB a := by
  unfold JB; rw [recsB_snoc, List.append_assoc]
/-- opened, with all in order: nothing is done -/
theorem open_same {d : DS} {f : Int} {g sx sy : Nat} {s : List Nat} {r : List (List Nat)} (hg : 0 < g ∧ g < 18446744073709551616) (hl : (JB g s r).length < 18446744073709551616) (h : Has d f (JB g s r) sx [] sy) :
    openM d = (⟨d, f, g⟩, 0) ∧ pick d = (f, ⟨g, s, r, (JB g s r).length⟩) := by
  have hx : look (JB g s r) = ⟨g, s, r, (JB g s r).length⟩ := by
    have := look_of (q := []) (s := s) (r := r) hg (by rw [List.append_nil]; exact hl) one_nil
    rw [List.append_nil] at this
    exact this
  have hp := pick_has h (by rw [look_nil, hx]; exact hg.1)
  rw [hx] at hp
  refine ⟨?_, hp⟩
  unfold openM cleanM clean2 emptyM open2
  rw [hp]
  dsimp only
  rw [h.bx, if_neg (Nat.lt_irrefl _)]
  dsimp only
  rw [if_neg (show ¬ ((0 : Nat) ≠ 0) by decide), h.b_y, if_pos rfl, if_neg (by omega)]
/-- opened behind a crash -/
theorem open_calm {d : DS} {f : Int} {g sx sy : Nat} {s q y : List Nat} {r : List (List Nat)} (hc : Calm d) (hg : 0 < g ∧ g < 18446744073709551616) (hl : (JB g s r ++ q).length < 18446744073709551616) (h : Has d f (JB g s r ++ q) sx y sy) (hn : oneM q = none) (hy : (look y).gen < g) (hs : y = [] → sy = 0) :
    (openM d).2 = 0 ∧ (openM d).1.file = f ∧ (openM d).1.gen = g ∧ pick d = (f, ⟨g, s, r, (JB g s r).length⟩) ∧ Has (openM d).1.d f (JB g s r) (openM d |>.1.d.s f) [] 0 ∧ Calm (openM d).1.d ∧ (openM d).1.d.room = d.room := by
  have hx : look (JB g s r ++ q) = ⟨g, s, r, (JB g s r).length⟩ := look_of (q := q) (s := s) (r := r) hg hl hn
  have hp := pick_has h (by rw [hx]; exact hy)
  rw [hx] at hp
  have hk : (JB g s r).length ≤ (JB g s r ++ q).length := by rw [List.length_append]; omega
  have key : ∃ d1 sx1, (if (JB g s r).length < (d.b f).length then d.cutM f ((JB g s r).length : Nat) else (d, 0)) = (d1, 0) ∧ Has d1 f (JB g s r) sx1 y sy ∧ Calm d1 ∧ d1.room = d.room := by
    rw [h.bx]
    by_cases hlt : (JB g s r).length < (JB g s r ++ q).length
    · rw [if_pos hlt]
      obtain ⟨h1, h2, h3⟩ := cut_went h hk
      obtain ⟨h4, h5⟩ := h2 hc
      rcases h3 with ⟨e3, h3⟩ | ⟨e3, _⟩
      · rw [List.take_left] at h3
        exact ⟨_, _, Prod.ext rfl h4, h3, h5, h1⟩
      · rw [h4] at e3; cases e3
    · rw [if_neg hlt]
      have hq : q = [] := List.eq_nil_of_length_eq_zero (by rw [List.length_append] at hlt; omega)
      subst hq
      rw [List.append_nil] at h
      exact ⟨d, sx, rfl, h, hc, rfl⟩
  obtain ⟨d1, sx1, e1, h1, c1, r1⟩ := key
  obtain ⟨r2, k2, w2⟩ := empty_went h1.swap hs
  obtain ⟨e2, c2⟩ := k2 c1
  rcases w2 with ⟨_, h2⟩ | ⟨e3, _⟩
  · have h3 := h2.swap
    rw [show 1 - (1 - f) = f by omega] at h3
    have ho : openM d = (⟨(emptyM d1 (1 - f)).1, f, g⟩, 0) := by
      unfold openM cleanM clean2 open2
      rw [hp]
      dsimp only
      rw [e1]
      dsimp only
      rw [if_neg (show ¬ ((0 : Nat) ≠ 0) by decide), if_neg (by omega), e2]
    rw [ho]
    exact ⟨rfl, rfl, rfl, hp, ⟨h3.f01, h3.bx, rfl, h3.b_y, h3.s_y⟩, c2, r2.trans r1⟩
  · rw [e2] at e3; cases e3
/-- opened for the first time -/
theorem open_first {n : Int} (hn : (headN 1 []).length ≤ roomN n) :
    (openM (newD n)).2 = 0 ∧ (openM (newD n)).1.file = 0 ∧ (openM (newD n)).1.gen = 1 ∧ pick (newD n) = (0, zeroF) ∧ Has (openM (newD n)).1.d 0 (JB 1 [] []) (JB 1 [] []).length [] 0 ∧ Calm (openM (newD n)).1.d ∧ (openM (newD n)).1.d.room = roomN n := by
  have h : Has (newD n) 0 [] 0 [] 0 := ⟨.inl rfl, rfl, rfl, rfl, rfl⟩
  have hc : Calm (newD n) := ⟨rfl, rfl⟩
  have hp : pick (newD n) = (0, zeroF) := by
    unfold pick
    show (if (look []).gen < (look []).gen then _ else ((0 : Int), look [])) = _
    rw [if_neg (Nat.lt_irrefl _), look_nil]
  obtain ⟨r1, k1, w1⟩ := write_went h (headN 1 []) (by show 0 + 0 + _ ≤ roomN n; omega)
  obtain ⟨e1, c1⟩ := k1 hc
  have ho : openM (newD n) = (⟨(writeM (newD n) 0 (headN 1 [])).1, 0, 1⟩, 0) := by
    unfold openM cleanM clean2 emptyM
    rw [hp]
    dsimp only
    rw [if_neg (show ¬ (zeroF.fin < ((newD n).b 0).length) from Nat.lt_irrefl 0)]
    dsimp only
    rw [if_neg (show ¬ ((0 : Nat) ≠ 0) by decide), show (newD n).b (1 - 0) = [] from rfl, if_pos rfl]
    unfold open2
    dsimp only
    rw [if_pos ⟨rfl, rfl⟩, e1]
  rw [ho]
  rcases w1 with ⟨_, h1⟩ | ⟨e3, _⟩
  · refine ⟨rfl, rfl, rfl, hp, ?_, c1, r1⟩
    have e : JB 1 [] [] = [] ++ headN 1 [] := by unfold JB; simp [recsB]
    rw [e]
    exact h1
  · rw [e1] at e3; cases e3
/-! a journal in order -/
structure Good (j : JS) (s : List Nat) (r : List (List Nat)) : Prop where
  has : Has j.d j.file (JB j.gen s r) (JB j.gen s r).length [] 0
  pos : 0 < j.gen
  lt : j.gen < 18446744073709551616
/-- what an opening tells -/
def Told (d : DS) (s : List Nat) (r : List (List Nat)) : Prop := (openM d).2 = 0 ∧ (pick d).2.snap = s ∧ (pick d).2.recs = r
/-- what a crash may leave -/
def Left (d : DS) (s : List Nat) (r : List (List Nat)) (s' : List Nat) (r' : List (List Nat)) : Prop := ∀ keep turn, Told (d.crashM keep turn) s r ∨ Told (d.crashM keep turn) s' r'
theorem crash_sure (x : List Nat) (keep : Int) (t : Bool) : crashB x x.length keep t = x := by
  have : keepN x x.length keep = 0 := by unfold keepN; omega
  unfold crashB
  rw [this]
  simp [Disk.turnL]
theorem crash_has {d : DS} {f : Int} {x y : List Nat} {sx sy : Nat} (h : Has d f x sx y sy) (keep : Int) (t : Bool) : Has (d.crashM keep t) f (crashB x sx keep t) (crashB x sx keep t).length (crashB y sy keep t) (crashB y sy keep t).length ∧ Calm (d.crashM keep t) := by
  obtain ⟨hf, h1, h2, h3, h4⟩ := h
  subst h1 h2 h3 h4
  refine ⟨?_, rfl, rfl⟩
  rcases hf with rfl | rfl
  · exact ⟨.inl rfl, rfl, rfl, rfl, rfl⟩
  · exact ⟨.inr rfl, rfl, rfl, rfl, rfl⟩
theorem turn_eq (t : Bool) (q : List Nat) : Disk.turnL t q = Wal.turnL t q := by
  unfold Disk.turnL Wal.turnL
  cases t with
  | false => rfl
  | true =>
    rw [if_pos rfl, if_pos rfl]
    rcases hr : q.reverse with _ | ⟨x, s⟩
    · have : q = [] := by simpa using hr
      subst this
      rfl
    · have hq : q = s.reverse ++ [x] := by rw [← List.reverse_reverse q, hr]; simp
      subst hq
      simp [List.getD, List.set_append_right]
/-- what a crash leaves of a record under way: all of it, or none -/
theorem crash_rec {a : List Nat} (ha : a.length < 281474976710656) (keep : Int) (t : Bool) : crashB (recB a) 0 keep t = recB a ∨ oneM (crashB (recB a) 0 keep t) = none := by
  have hk := keepN_b (recB a) keep
  unfold crashB
  rw [Nat.zero_add, turn_eq]
  by_cases h : keepN (recB a) 0 keep = (recB a).length ∧ t = false
  · left
    obtain ⟨h1, h2⟩ := h
    rw [h1, h2, List.take_length]
    rfl
  · right
    by_cases h0 : keepN (recB a) 0 keep = 0
    · rw [h0, List.take_zero, turnL_nil]
      exact one_nil
    · have hd : (t && decide (0 < keepN (recB a) 0 keep)) = t := by
        rw [decide_eq_true (by omega), Bool.and_true]
      rw [hd]
      refine one_torn ha hk ?_
      cases t with
      | false => exact .inl (by have : keepN (recB a) 0 keep ≠ (recB a).length := fun e => h ⟨e, rfl⟩; omega)
      | true => exact .inr rfl
theorem crash_nil (keep : Int) (t : Bool) : crashB [] 0 keep t = [] := crash_sure [] keep t
theorem told_of {d : DS} {f : Int} {g sx sy : Nat} {s q y : List Nat} {r : List (List Nat)} (hc : Calm d) (hg : 0 < g ∧ g < 18446744073709551616) (hl : (JB g s r ++ q).length < 18446744073709551616) (h : Has d f (JB g s r ++ q) sx y sy) (hn : oneM q = none) (hy : (look y).gen < g) (hs : y = [] → sy = 0) : Told d s r := by
  obtain ⟨h1, _, _, h4, _⟩ := open_calm hc hg hl h hn hy hs
  exact ⟨h1, by rw [h4], by rw [h4]⟩
theorem told_sure {d : DS} {f : Int} {g : Nat} {s y : List Nat} {r : List (List Nat)} {sy : Nat} (hg : 0 < g ∧ g < 18446744073709551616) (hl : (JB g s r).length < 18446744073709551616) (h : Has d f (JB g s r) (JB g s r).length y sy) (keep : Int) (t : Bool) (hy : (look (crashB y sy keep t)).gen < g) : Told (d.crashM keep t) s r := by
  obtain ⟨h1, hc⟩ := crash_has h keep t
  rw [crash_sure] at h1
  refine told_of (q := []) hc hg (by rw [List.append_nil]; exact hl) (by rw [List.append_nil]; exact h1) one_nil hy (fun e => by rw [e]; rfl)
theorem good_crash {j : JS} {s : List Nat} {r : List (List Nat)} (h : Good j s r) (hl : (JB j.gen s r).length < 18446744073709551616) (keep : Int) (t : Bool) : Told (j.d.crashM keep t) s r :=
  told_sure ⟨h.pos, h.lt⟩ hl h.has keep t (by rw [crash_nil, look_nil]; exact h.pos)
/-- what a call on a journal in order does -/
structure Steps (j : JS) (rr : JS × Nat) (G : Nat) (s : List Nat) (r : List (List Nat)) (s' : List Nat) (r' : List (List Nat)) : Prop where
  room : rr.1.d.room = j.d.room
  calm : Calm j.d → rr.2 = 0 ∧ Calm rr.1.d
  way : (rr.2 = 0 ∧ Good rr.1 s' r' ∧ rr.1.gen = G) ∨ (rr.2 = 14 ∧ Left rr.1.d s r s' r')
theorem add_steps {j : JS} {s : List Nat} {r : List (List Nat)} (h : Good j s r) (a : List Nat) (hr : (JB j.gen s r).length + (recB a).length ≤ j.d.room) (hrm : j.d.room ≤ 1048576) : Steps j (addM j a) j.gen s r s (r ++ [a]) := by
  obtain ⟨r1, k1, w1⟩ := write_went h.has (recB a) (by simp only [List.length_nil]; omega)
  have hg := And.intro h.pos h.lt
  have ha : a.length < 281474976710656 := by have := recB_ge a; omega
  refine ⟨r1, k1, ?_⟩
  rcases w1 with ⟨e1, h1⟩ | ⟨e1, h1⟩
  · left
    refine ⟨e1, ⟨?_, h.pos, h.lt⟩, rfl⟩
    rw [← jb_snoc] at h1
    exact h1
  · right
    refine ⟨e1, fun keep t => ?_⟩
    rcases h1 with h1 | h1
    · exact .inl (told_sure hg (by omega) h1 keep t (by rw [crash_nil, look_nil]; exact h.pos))
    · obtain ⟨h2, hc⟩ := crash_has h1 keep t
      rw [crash_ab, crash_nil] at h2
      rcases crash_rec ha keep t with e | e
      · right
        rw [e, ← jb_snoc] at h2
        exact told_of (q := []) hc hg (by rw [List.append_nil, jb_snoc, List.length_append]; omega) (by rw [List.append_nil]; exact h2) one_nil (by rw [look_nil]; exact h.pos) (fun _ => rfl)
      · left
        have hle : (crashB (recB a) 0 keep t).length ≤ (recB a).length := by rw [crash_len]; exact keepN_b _ _
        exact told_of hc hg (by rw [List.length_append]; omega) h2 e (by rw [look_nil]; exact h.pos) (fun _ => rfl)
theorem look_jb {g : Nat} {s : List Nat} {r : List (List Nat)} (hg : 0 < g ∧ g < 18446744073709551616) (hl : (JB g s r).length < 18446744073709551616) : look (JB g s r) = ⟨g, s, r, (JB g s r).length⟩ := by
  have := look_of (q := []) (s := s) (r := r) hg (by rw [List.append_nil]; exact hl) one_nil
  rw [List.append_nil] at this
  exact this
theorem jb_nil (g : Nat) (s : List Nat) : JB g s [] = headN g s := by unfold JB; simp [recsB]
theorem ck_steps {j : JS} {s : List Nat} {r : List (List Nat)} (h : Good j s r) (a : List Nat) (hg1 : j.gen + 1 < 18446744073709551616) (hr : (JB j.gen s r).length + (headN (j.gen + 1) a).length ≤ j.d.room) (hrm : j.d.room ≤ 1048576) : Steps j (ckM j a) (j.gen + 1) s r a [] := by
  have hn : nextG j.gen = j.gen + 1 := Nat.mod_eq_of_lt hg1
  have hg := And.intro h.pos h.lt
  have hg' : 0 < j.gen + 1 ∧ j.gen + 1 < 18446744073709551616 := ⟨Nat.succ_pos _, hg1⟩
  have hE : emptyM j.d (1 - j.file) = (j.d, 0) := by unfold emptyM; rw [h.has.b_y, if_pos rfl]
  obtain ⟨r1, k1, w1⟩ := write_went h.has.swap (headN (j.gen + 1) a) (by simp only [List.length_nil]; omega)
  rw [List.nil_append] at w1
  have hC : ckM j a = ck3 (writeM j.d (1 - j.file) (headN (j.gen + 1) a)) j := by
    unfold ckM ck2
    rw [hE, hn, if_pos rfl]
  rw [hC]
  have hla : (numB (j.gen + 1) ++ a).length < 281474976710656 := by have := recB_ge (numB (j.gen + 1) ++ a); unfold headN at hr; omega
  have hlx : (JB j.gen s r).length < 18446744073709551616 := by omega
  have hly : (JB (j.gen + 1) a []).length < 18446744073709551616 := by rw [jb_nil]; omega
  generalize hw : writeM j.d (1 - j.file) (headN (j.gen + 1) a) = w at *
  obtain ⟨d2, e2⟩ := w
  have e11 : 1 - (1 - j.file) = j.file := by omega
  unfold ck3
  rw [hn]
  dsimp only at *
  rcases w1 with ⟨he2, h2⟩ | ⟨he2, h2⟩
  · subst he2
    rw [if_neg (show ¬ ((0 : Nat) ≠ 0) by decide)]
    have h3 := h2.swap
    rw [e11] at h3
    obtain ⟨r4, k4, w4⟩ := cut_went h3 (n := 0) (Nat.zero_le _)
    refine ⟨r4.trans r1, fun hc => k4 (k1 hc).2, ?_⟩
    rcases w4 with ⟨e4, h4⟩ | ⟨e4, h4⟩
    · left
      refine ⟨e4, ⟨?_, hg'.1, hg'.2⟩, rfl⟩
      have h5 := h4.swap
      rw [List.take_zero] at h5
      show Has _ (1 - j.file) (JB (j.gen + 1) a []) _ [] 0
      rw [jb_nil]
      exact h5
    · right
      refine ⟨e4, fun keep t => .inr ?_⟩
      have h5 := h4.swap
      rw [← jb_nil] at h5
      exact told_sure hg' hly h5 keep t (by rw [crash_sure, look_jb hg hlx]; exact Nat.lt_succ_self _)
  · subst he2
    rw [if_pos (show ((14 : Nat) ≠ 0) by decide)]
    refine ⟨r1, fun hc => absurd (k1 hc).1 (by decide), .inr ⟨rfl, fun keep t => ?_⟩⟩
    rcases h2 with h2 | h2
    · have h3 := h2.swap
      rw [e11] at h3
      exact .inl (told_sure hg hlx h3 keep t (by rw [crash_nil, look_nil]; exact h.pos))
    · rcases crash_rec hla keep t with e | e
      · right
        obtain ⟨h3, hc⟩ := crash_has h2 keep t
        rw [crash_sure] at h3
        have e' : crashB (headN (j.gen + 1) a) 0 keep t = JB (j.gen + 1) a [] := by rw [jb_nil]; exact e
        rw [e'] at h3
        exact told_of (q := []) hc hg' (by rw [List.append_nil]; exact hly) (by rw [List.append_nil]; exact h3) one_nil (by rw [look_jb hg hlx]; exact Nat.lt_succ_self _) (fun e => by rw [e]; rfl)
      · left
        have h3 := h2.swap
        rw [e11] at h3
        have hle : (crashB (headN (j.gen + 1) a) 0 keep t).length ≤ (headN (j.gen + 1) a).length := by rw [crash_len]; exact keepN_b _ _
        exact told_sure hg hlx h3 keep t (by rw [show crashB (headN (j.gen + 1) a) 0 keep t = crashB (recB (numB (j.gen + 1) ++ a)) 0 keep t from rfl, look_none (by rw [show crashB (recB (numB (j.gen + 1) ++ a)) 0 keep t = crashB (headN (j.gen + 1) a) 0 keep t from rfl]; omega) e]; exact h.pos)
theorem Steps.calm' {j : JS} {rr : JS × Nat} {G : Nat} {s : List Nat} {r : List (List Nat)} {s' : List Nat} {r' : List (List Nat)} (h : Steps j rr G s r s' r') (hc : Calm j.d) : rr.2 = 0 ∧ Calm rr.1.d ∧ Good rr.1 s' r' ∧ rr.1.gen = G := by
  obtain ⟨e, c⟩ := h.calm hc
  rcases h.way with ⟨_, h1, h2⟩ | ⟨h1, _⟩
  · exact ⟨e, c, h1, h2⟩
  · rw [e] at h1; cases h1
theorem first_good {n : Int} (hn : (headN 1 []).length ≤ roomN n) : Good (openM (newD n)).1 [] [] ∧ Calm (openM (newD n)).1.d ∧ (openM (newD n)).2 = 0 ∧ (openM (newD n)).1.gen = 1 ∧ (openM (newD n)).1.d.room = roomN n := by
  obtain ⟨h1, h2, h3, _, h5, h6, h7⟩ := open_first hn
  refine ⟨⟨?_, by rw [h3]; decide, by rw [h3]; decide⟩, h6, h1, h3, h7⟩
  rw [h2, h3]
  exact h5
end Go.Proofs.YtdlghabpnpbebaaDoor.Jrn

/- Layer 24 (journal): the chapter's example. -/
namespace Go.Proofs.YtdlghabpnpbebaaDoor.Jrn
open Go.RowKit Go.Proofs.YtdlghabpnpbebaaDoor.Mem Go.Proofs.YtdlghabpnpbebaaDoor.Num Go.Proofs.YtdlghabpnpbebaaDoor.Wal Go.Proofs.YtdlghabpnpbebaaDoor.Disk Go.Proofs.YtdlghabpnpbebaaDoor.Crc

/-- a journal all of whose memory is new since w0 -/
def JW (w0 w : World) (S : Nat → Prop) (g gj : Nat) (j : JS) : Prop := JrnAt w S g gj j ∧ Below w0.heap.size w0 w ∧ ∀ k, JG S gj k → w0.heap.size ≤ k
theorem JW.step {w0 w w' : World} {S S' : Nat → Prop} {g gj : Nat} {j j' : JS} (h : JW w0 w S g gj j) (hJ : JrnAt w' S' g gj j') (hG : Goes (JG S gj) w (JG S' gj) w') : JW w0 w' S' g gj j' :=
  ⟨hJ, h.2.1.trans (hG.below h.2.1.size h.2.2), hG.base h.2.1.size h.2.2⟩
theorem JW.next {w0 w w' : World} {S : Nat → Prop} {g gj : Nat} {j : JS} (h : JW w0 w S g gj j) (hb : Below w.heap.size w w') : JW w0 w' S g gj j := h.step (h.1.next hb) (goes_below hb)
theorem JW.tab {w0 w : World} {S : Nat → Prop} {g gj : Nat} {j : JS} (h : JW w0 w S g gj j) (hT : Tab w0) : Tab w := hT.next h.2.1
/-! the example's journal, call by call -/
def j1 : JS := (openM (newD 1000)).1
def j2 : JS := (addM j1 [97]).1
def j3 : JS := (ckM j2 [115]).1
def j4 : JS := (addM j3 [98]).1
theorem hd_le (g : Nat) (s : List Nat) : (headN g s).length ≤ s.length + 22 := by
  unfold headN
  have := recB_le (numB g ++ s)
  have h2 := numB_length g
  have h3 := Shift.lenB_le g
  rw [List.length_append] at this
  omega
theorem jb_le (g : Nat) (s : List Nat) (r : List (List Nat)) : (JB g s r).length ≤ s.length + 22 + (recsB r).length := by
  have := hd_le g s
  unfold JB
  rw [List.length_append]
  omega
theorem ex_all : (openM (newD 1000)).2 = 0 ∧ (addM j1 [97]).2 = 0 ∧ (ckM j2 [115]).2 = 0 ∧ (addM j3 [98]).2 = 0 ∧ (openM j4.d).2 = 0 ∧ (openM j4.d).1.gen = 2 ∧ (pick j4.d).2.snap = [115] ∧ (pick j4.d).2.recs = [[98]] ∧ (pick (newD 1000)).2 = zeroF := by
  have hr : roomN 1000 = 1000 := by decide
  have h1l := hd_le 1 []
  simp only [List.length_nil] at h1l
  have hn : (headN 1 []).length ≤ roomN 1000 := by omega
  obtain ⟨g1, c1, e1, n1, m1⟩ := first_good hn
  have p1 := (open_first hn).2.2.2.1
  have b1 := jb_le j1.gen [] []
  have q1 := recB_le [97]
  simp only [List.length_nil, List.length_cons, recsB, List.flatMap_nil] at b1 q1
  have s2 := add_steps (j := j1) g1 [97] (by show _ ≤ (openM (newD 1000)).1.d.room; omega) (by show (openM (newD 1000)).1.d.room ≤ _; omega)
  obtain ⟨e2, c2, g2, n2⟩ := s2.calm' c1
  have m2 : j2.d.room = 1000 := s2.room.trans (m1.trans hr)
  have n2' : j2.gen = 1 := n2.trans n1
  have b2 := jb_le j2.gen [] ([] ++ [[97]])
  have q2 := hd_le (j2.gen + 1) [115]
  simp only [List.length_nil, List.length_cons, recsB, List.flatMap_nil, List.nil_append, List.flatMap_cons, List.length_append] at b2 q2
  have s3 := ck_steps (j := j2) g2 [115] (by rw [n2']; decide) (by simp only [List.nil_append]; omega) (by omega)
  obtain ⟨e3, c3, g3, n3⟩ := s3.calm' c2
  have m3 : j3.d.room = 1000 := s3.room.trans m2
  have n3' : j3.gen = 2 := n3.trans (by rw [n2'])
  have b3 := jb_le j3.gen [115] []
  have q3 := recB_le [98]
  simp only [List.length_nil, List.length_cons, recsB, List.flatMap_nil] at b3 q3
  have s4 := add_steps (j := j3) g3 [98] (by omega) (by omega)
  obtain ⟨e4, c4, g4, n4⟩ := s4.calm' c3
  have n4' : j4.gen = 2 := n4.trans n3'
  have b4 := jb_le j4.gen [115] ([] ++ [[98]])
  simp only [List.length_nil, List.length_cons, recsB, List.flatMap_nil, List.nil_append, List.flatMap_cons, List.length_append] at b4
  have g4' : Good j4 [115] [[98]] := g4
  have o5 := open_same (d := j4.d) ⟨g4'.pos, g4'.lt⟩ (by omega) g4'.has
  refine ⟨e1, e2, e3, e4, ?_, ?_, ?_, ?_, ?_⟩
  · rw [o5.1]
  · rw [o5.1]; exact n4'
  · rw [o5.2]
  · rw [o5.2]
  · rw [p1]
theorem one_all {a : Nat} (ha : a < 256) : AllB [a] := fun x hx => by rcases List.mem_singleton.1 hx with rfl; exact ha
theorem add_lit {w0 w : World} {S : Nat → Prop} {g gj : Nat} {j : JS} (h : JW w0 w S g gj j) (hT : Tab w0) {a : Nat} (ha : a < 256) (fr : Nat × Nat) :
    Calls Tryd.prog 11 #[.pointer (some ⟨gj, 0, none⟩), .slice (some ⟨w.heap.size, 0, none⟩) 1 1] (w.alloc (.cells #[.int .u8 (a : Int)] 5 fr)) fun e w' => e = .returned (.int .i64 ((addM j [a]).2 : Int)) ∧ ∃ S', JW w0 w' S' g gj (addM j [a]).1 := by
  have hB : Below w.heap.size w (w.alloc (.cells #[.int .u8 (a : Int)] 5 fr)) := (Below.refl _ _).alloc (Nat.le_refl _) _
  have h' := h.next hB
  refine (add_any S g gj j _ 1 1 [a] _ rfl (h'.tab hT) h'.1 (one_all ha) ((Rd.marked w [.int .u8 (a : Int)] 5 fr).more (by simp)) (by simp)).mono ?_
  rintro e w' ⟨he, S', hJ, hG⟩
  exact ⟨he, S', h'.step hJ hG⟩
theorem ck_lit {w0 w : World} {S : Nat → Prop} {g gj : Nat} {j : JS} (h : JW w0 w S g gj j) (hT : Tab w0) {a : Nat} (ha : a < 256) (fr : Nat × Nat) :
    Calls Tryd.prog 12 #[.pointer (some ⟨gj, 0, none⟩), .slice (some ⟨w.heap.size, 0, none⟩) 1 1] (w.alloc (.cells #[.int .u8 (a : Int)] 5 fr)) fun e w' => e = .returned (.int .i64 ((ckM j [a]).2 : Int)) ∧ ∃ S', JW w0 w' S' g gj (ckM j [a]).1 := by
  have hB : Below w.heap.size w (w.alloc (.cells #[.int .u8 (a : Int)] 5 fr)) := (Below.refl _ _).alloc (Nat.le_refl _) _
  have h' := h.next hB
  have h4 : 0 < w0.heap.size := hT.1
  refine (ck_any S g gj j _ 1 1 [a] _ rfl (h'.tab hT) h'.1 (one_all ha) w0.heap.size h'.2.1.size (fun k hk => h'.2.2 k (.inl hk)) h4 ((Rd.marked w [.int .u8 (a : Int)] 5 fr).more (by simp)) ?_ (by simp)).mono ?_
  · intro x hx _ hs
    obtain rfl := Option.some.inj hx
    have := h.1.1.2.2.1 _ hs
    simp at this
  rintro e w' ⟨he, S', hJ, hG⟩
  exact ⟨he, S', h'.step hJ hG⟩
set_option maxHeartbeats 2000000 in
set_option maxRecDepth 100000 in
theorem works_any (w : World) (hT : Tab w) : Calls Tryd.prog 15 #[] w fun e w' => e = .returned (.bool true) ∧ Below w.heap.size w w' := by
  have kc := fun (w : World) (C : Array Value) (n c : Nat) => Lib.run_convert_bytes_const (P := Tryd.prog) w 22 5 C n c Tryd.underlying22 Tryd.underlying5
  have HX := kept ex_all
  have C1 := kept (new_any 1000 w)
  go_enter Tryd.func15, Tryd.ntmps15
  go_wp2_with fail
  refine C1.out.mono ?_
  rintro e w1 ⟨rfl, hd, hb⟩
  have HB1 := kept hb
  have C2 := kept (open_any _ _ _ w1 hd (hT.next hb) w.heap.size hb.size (fun k hk => by omega) hT.1)
  clear hb hd C1
  go_wp2_with fail
  refine C2.out.mono ?_
  rintro e w2 ⟨S2, hG2, -, ⟨-, gj, A2, c2, X2, cX2, ps2, rfl, hgj, hJ2, hbo2, hF2, hc2, -⟩ | ⟨he, -⟩⟩
  case inr => exact absurd HX.out.1 he
  rw [HX.out.2.2.2.2.2.2.2.2] at hbo2
  obtain rfl : ps2 = [] := List.map_eq_nil_iff.1 hbo2
  have hsn : (pick (newD 1000)).2.snap.length = 0 := by rw [HX.out.2.2.2.2.2.2.2.2]; rfl
  rw [hsn]
  have J2 : JW w w2 S2 w.heap.size gj j1 := ⟨hJ2, HB1.out.trans (hG2.below HB1.out.size (fun k hk => by omega)), fun k hk => hk.elim (fun h => (hG2.base HB1.out.size (fun k hk => by omega)) k h) (fun e => by have := HB1.out.size; omega)⟩
  have hwr : w.heap.size ≤ w2.heap.size := J2.2.1.size
  have C3 := kept (add_lit J2 hT (a := 97) (by decide) (1, 2))
  clear hG2 hgj hJ2 hbo2 hF2 hc2 C2 hsn
  go_wp2_with fail
  refine C3.out.mono ?_
  rintro e w3 ⟨rfl, S3, J3⟩
  rw [show (addM j1 [97]).2 = 0 from HX.out.2.1]
  have C4 := kept (ck_lit (j := j2) J3 hT (a := 115) (by decide) (1, 2))
  clear J2 J3 C3
  go_wp2_with fail
  refine C4.out.mono ?_
  rintro e w4 ⟨rfl, S4, J4⟩
  rw [show (ckM j2 [115]).2 = 0 from HX.out.2.2.1]
  have C5 := kept (add_lit (j := j3) J4 hT (a := 98) (by decide) (1, 2))
  clear J4 C4
  go_wp2_with fail
  refine C5.out.mono ?_
  rintro e w5 ⟨rfl, S5, J5⟩
  rw [show (addM j3 [98]).2 = 0 from HX.out.2.2.2.1]
  have h4 : 0 < w.heap.size := hT.1
  have C6 := kept (open_any S5 w.heap.size j4.d w5 J5.1.1 (J5.tab hT) w.heap.size J5.2.1.size (fun k hk => J5.2.2 k (.inl hk)) h4)
  have HB5 := kept J5.2.1
  have HS5 := kept (fun k hk => J5.2.2 k (.inl hk))
  clear J5 C5 h4
  go_wp2_with fail
  refine C6.out.mono ?_
  rintro e w6 ⟨S6, hG6, -, ⟨-, gj6, A6, c6, X6, cX6, ps6, rfl, hgj6, hJ6, hbo6, hF6, hc6, -⟩ | ⟨he, -⟩⟩
  case inr => exact absurd HX.out.2.2.2.2.1 he
  have hsn : (pick j4.d).2.snap.length = 1 := by rw [HX.out.2.2.2.2.2.2.1]; rfl
  rw [hsn]
  have hb6 : Below w.heap.size w w6 := HB5.out.trans (hG6.below HB5.out.size HS5.out)
  have hrd := hF6.1
  rw [HX.out.2.2.2.2.2.2.1] at hrd
  have hrs := run_str w6 _ A6 1 c6 [115] rfl hrd
  have hst : strB [115] = ⟨#[115]⟩ := rfl
  rw [hst] at hrs
  have hbo : bodies ps6 = [[98]] := hbo6.trans HX.out.2.2.2.2.2.2.2.1
  have hn6 : ps6.length = 1 := by have := congrArg List.length hbo; simpa [bodies] using this
  rw [hn6]
  have hba : Below w6.heap.size w6 (w6.alloc (.cells #[.int .u8 98] 5 (1, 2))) := (Below.refl _ _).alloc (Nat.le_refl _) _
  have hbb : Below w6.heap.size w6 ((w6.alloc (.cells #[.int .u8 98] 5 (1, 2))).alloc (.cells #[.slice (some ⟨w6.heap.size, 0, none⟩) 1 1] 22)) := hba.alloc (by simp) _
  have hrY : RdParts ((w6.alloc (.cells #[.int .u8 98] 5 (1, 2))).alloc (.cells #[.slice (some ⟨w6.heap.size, 0, none⟩) 1 1] 22)) ((w6.alloc (.cells #[.int .u8 98] 5 (1, 2))).alloc (.cells #[.slice (some ⟨w6.heap.size, 0, none⟩) 1 1] 22)).heap.size (some ⟨w6.heap.size + 1, 0, none⟩) [⟨some ⟨w6.heap.size, 0, none⟩, [98], 1⟩] := by
    refine ⟨Rd.newAt _ [.slice (some ⟨w6.heap.size, 0, none⟩) 1 1] 22 (by simp) (by simp), ?_⟩
    intro p hp
    obtain rfl := List.mem_singleton.1 hp
    exact ⟨Rd.next (w := w6.alloc (.cells #[.int .u8 98] 5 (1, 2))) ((Rd.marked w6 [.int .u8 98] 5 (1, 2)).more (by simp)) ((Below.refl _ _).alloc (Nat.le_refl _) _), one_all (by decide), (by show (1 : Nat) ≤ _; omega)⟩
  have C7 := kept (rsame_any X6 (some ⟨w6.heap.size + 1, 0, none⟩) 1 1 cX6 1 ps6 [⟨some ⟨w6.heap.size, 0, none⟩, [98], 1⟩] _ hn6.symm rfl (hF6.2.1.next hbb) hrY (by omega) (by show (1 : Nat) ≤ _; omega))
  have hdec : decide (bodies ps6 = bodies [(⟨some ⟨w6.heap.size, 0, none⟩, [98], 1⟩ : Part)]) = true := by rw [hbo]; rfl
  rw [hdec] at C7
  have CG := kept (fun (W : World) (hb : Below w6.heap.size w6 W) => gen_any S6 w.heap.size gj6 (openM j4.d).1 W (hJ6.next hb))
  rw [HX.out.2.2.2.2.2.1] at CG
  have HBF := kept (And.intro hb6 hbb)
  clear hF6 hrd hst hbo6 hbo hba hbb hrY hJ6 hG6 hgj6 hc6 hsn hb6 hdec hn6
  go_wp2_with fail
  refine C7.out.mono ?_
  rintro e w7 ⟨rfl, q, rfl⟩
  have hbq : Below w6.heap.size w6 (((w6.alloc (.cells #[.int .u8 98] 5 (1, 2))).alloc (.cells #[.slice (some ⟨w6.heap.size, 0, none⟩) 1 1] 22)).drewN q) := HBF.out.2.trans ⟨rfl, rfl, rfl, Nat.le_refl _, fun _ _ => rfl⟩
  have CG1 := kept (CG.out _ hbq)
  have HE := kept (HBF.out.1.trans (hbq.mono HBF.out.1.size))
  clear C7 CG hbq
  go_wp2_with fail
  refine CG1.out.mono ?_
  rintro e w8 ⟨rfl, rfl⟩
  go_wp2_with fail
  go_ret
  exact ⟨rfl, HE.out⟩
end Go.Proofs.YtdlghabpnpbebaaDoor.Jrn

/- Layer 24 (journal): acts, the laws' few and equal. -/
namespace Go.Proofs.YtdlghabpnpbebaaDoor.Jrn
open Go.RowKit Go.Proofs.YtdlghabpnpbebaaDoor.Mem Go.Proofs.YtdlghabpnpbebaaDoor.Num Go.Proofs.YtdlghabpnpbebaaDoor.Wal Go.Proofs.YtdlghabpnpbebaaDoor.Disk Go.Proofs.YtdlghabpnpbebaaDoor.Crc

/-- a call -/
structure JActM where
  k : Nat
  n : Int
  t : Bool
  A : Option Addr
  b : List Nat
  c : Nat
instance : Inhabited JActM := ⟨⟨0, 0, false, none, [], 0⟩⟩
def JActM.cells (x : JActM) : List Value := [.int .u8 (x.k : Int), .int .i64 x.n, .bool x.t, .slice x.A x.b.length x.c]
def jactE : Elem JActM := ⟨JActM.cells, 4, by decide, fun _ => rfl, fun x u hu => by
  simp only [JActM.cells, List.mem_cons, List.not_mem_nil, or_false] at hu
  rcases hu with rfl | rfl | rfl | rfl <;> rfl⟩
def JActM.Ok (W : World) (x : JActM) : Prop := x.k < 256 ∧ (-9223372036854775808 ≤ x.n ∧ x.n ≤ 9223372036854775807) ∧ True ∧ Rd W W.heap.size x.A (BB x.b) ∧ AllB x.b ∧ x.b.length ≤ x.c ∧ x.c ≤ 140737488351232
/-- few and short -/
def fewA (l : List JActM) : Prop := l.length ≤ 30 ∧ ∀ x ∈ l, x.b.length ≤ 300
instance (l : List JActM) : Decidable (fewA l) := by unfold fewA; infer_instance
theorem equal_any (w : World) (B B' : Nat) (A A' : Option Addr) (n m c c' : Nat) (a b : List Nat) (hn : n = a.length) (hm : m = b.length) (ha : AllB a) (hb : AllB b) (h1 : Rd w B A (BB a)) (h2 : Rd w B' A' (BB b)) :
    Calls Tryd.prog 20 #[.slice A n c, .slice A' m c'] w fun e w' => e = .returned (.bool (decide (a = b))) ∧ w = w' := by
  subst hn hm
  have s1 := run_str w B A _ c a rfl h1
  have s2 := run_str w B' A' _ c' b rfl h2
  have s3 := str_eq ha hb
  go_enter Tryd.func20, Tryd.ntmps20
  go_wp2
  go_ret
  exact ⟨rfl, rfl⟩
theorem jequal_any (w : World) (B B' : Nat) (A A' : Option Addr) (n m c c' : Nat) (a b : List Nat) (hn : n = a.length) (hm : m = b.length) (ha : AllB a) (hb : AllB b) (h1 : Rd w B A (BB a)) (h2 : Rd w B' A' (BB b)) :
    Calls Tryd.prog 20 #[.slice A n c, .slice A' m c'] w fun e w' => e = .returned (.bool (decide (a = b))) ∧ w = w' := equal_any w B B' A A' n m c c' a b hn hm ha hb h1 h2
theorem few_any (A : Option Addr) (c : Nat) (l : List JActM) (w : World) (hr : jactE.Rd w w.heap.size A l) (hok : ∀ x ∈ l, x.Ok w) (hsz : l.length ≤ 9223372036854775807) :
    Calls Tryd.prog 16 #[.slice A l.length c] w fun e w' => e = .returned (.bool (decide (fewA l))) ∧ w = w' := by
  by_cases hbig : 30 < l.length
  · have hd : decide (fewA l) = false := decide_eq_false (fun h => by have := h.1; omega)
    rw [hd]
    clear hd hr hok
    go_enter Tryd.func16, Tryd.ntmps16
    go_wp2
    go_ret
    exact ⟨rfl, rfl⟩
  · have h30 : l.length ≤ 30 := by omega
    have HR := kept hr
    have HOK := kept hok
    clear hr hok hsz hbig
    go_enter Tryd.func16, Tryd.ntmps16
    go_wp2
    go_loopw [3] (fun i wr => ∃ j : Nat, j ≤ l.length ∧ i = .int .i64 (j : Int) ∧ wr = w ∧ Kept (∀ k x, k < j → l[k]? = some x → x.b.length ≤ 300)) (fun i _ => l.length - (intOf i).toNat)
    case atStart => exact ⟨0, Nat.zero_le _, rfl, rfl, ⟨fun k x h => absurd h (Nat.not_lt_zero _)⟩⟩
    case round =>
      obtain ⟨j, hj, rfl, rfl, hin⟩ := hrel
      by_cases hlt : j < l.length
      · obtain ⟨x, hx⟩ : ∃ x, l[j]? = some x := ⟨_, List.getElem?_eq_getElem hlt⟩
        have hxo := HOK.out x (List.mem_of_getElem? hx)
        obtain ⟨b, o, rfl, hbb, hcs⟩ := HR.out.at_ hx
        have HX := kept hx
        obtain ⟨xk, xn, xt, xA, xb, xc⟩ := x
        have c3 : wr.cell? ⟨b, o + j * 4 + 3, none⟩ = some (.slice xA xb.length xc) := hcs 3 _ rfl
        have hbl : xb.length ≤ 140737488351232 := by have h1 := hxo.2.2.2.2.2.1; have h2 := hxo.2.2.2.2.2.2; dsimp only at h1 h2; omega
        have hjn : (j : Int) < (l.length : Int) := by omega
        clear hcs hx hxo hbb
        by_cases h300 : 300 < xb.length
        · have hd : decide (fewA l) = false := decide_eq_false (fun h => by have := h.2 _ (List.mem_of_getElem? HX.out); dsimp only at this; omega)
          have HD := kept hd
          clear hd hin
          go_wp2
          go_ret
          exact ⟨by rw [HD.out]; rfl, rfl⟩
        · have HN : Kept (∀ k x, k < j + 1 → l[k]? = some x → x.b.length ≤ 300) := ⟨fun k x hk hx => by
            by_cases hkj : k < j
            · exact hin.out k x hkj hx
            · obtain rfl : k = j := by omega
              rw [HX.out] at hx
              obtain rfl := Option.some.inj hx
              dsimp only
              omega⟩
          clear hin
          go_wp2
          go_roundw
          case rel => exact ⟨j + 1, by omega, rfl, trivial, HN⟩
          case measure => simp [intOf]; omega
      · have hjl : j = l.length := by omega
        have hd : decide (fewA l) = true := decide_eq_true ⟨h30, fun x hx => by
          obtain ⟨k, hk⟩ := List.getElem?_of_mem hx
          exact hin.out k x (by have := (List.getElem?_eq_some_iff.1 hk).1; omega) hk⟩
        have HD := kept hd
        have hjn : ¬ (j : Int) < (l.length : Int) := by omega
        clear hin hd
        go_wp2
        go_ret
        exact ⟨by rw [HD.out]; rfl, rfl⟩
end Go.Proofs.YtdlghabpnpbebaaDoor.Jrn

/- Layer 24 (journal): the law JournalAgain. -/
namespace Go.Proofs.YtdlghabpnpbebaaDoor.Jrn
open Go.RowKit Go.Proofs.YtdlghabpnpbebaaDoor.Mem Go.Proofs.YtdlghabpnpbebaaDoor.Num Go.Proofs.YtdlghabpnpbebaaDoor.Wal Go.Proofs.YtdlghabpnpbebaaDoor.Disk Go.Proofs.YtdlghabpnpbebaaDoor.Crc

theorem add_w {w0 w : World} {S : Nat → Prop} {g gj : Nat} {j : JS} (h : JW w0 w S g gj j) (hT : Tab w0) (X : Option Addr) (c : Nat) (l : List Nat) (hl : AllB l) (hr : Rd w0 w0.heap.size X (BB l)) (hsz : l.length ≤ 300) :
    Calls Tryd.prog 11 #[.pointer (some ⟨gj, 0, none⟩), .slice X l.length c] w fun e w' => e = .returned (.int .i64 ((addM j l).2 : Int)) ∧ ∃ S', JW w0 w' S' g gj (addM j l).1 ∧ Goes (JG S gj) w (JG S' gj) w' := by
  refine (add_any S g gj j X l.length c l w rfl (h.tab hT) h.1 hl (hr.next h.2.1) (by omega)).mono ?_
  rintro e w' ⟨he, S', hJ, hG⟩
  exact ⟨he, S', h.step hJ hG, hG⟩
theorem ck_w {w0 w : World} {S : Nat → Prop} {g gj : Nat} {j : JS} (h : JW w0 w S g gj j) (hT : Tab w0) (X : Option Addr) (c : Nat) (l : List Nat) (hl : AllB l) (hr : Rd w0 w0.heap.size X (BB l)) (hsz : l.length ≤ 300) :
    Calls Tryd.prog 12 #[.pointer (some ⟨gj, 0, none⟩), .slice X l.length c] w fun e w' => e = .returned (.int .i64 ((ckM j l).2 : Int)) ∧ ∃ S', JW w0 w' S' g gj (ckM j l).1 ∧ Goes (JG S gj) w (JG S' gj) w' := by
  have h4 : 0 < w0.heap.size := hT.1
  refine (ck_any S g gj j X l.length c l w rfl (h.tab hT) h.1 hl w0.heap.size h.2.1.size (fun k hk => h.2.2 k (.inl hk)) h4 (hr.next h.2.1) ?_ (by omega)).mono ?_
  · intro x hx hn hs
    have h1 := rd_lt hr hx hn
    have h2 := h.2.2 _ (.inl hs)
    omega
  rintro e w' ⟨he, S', hJ, hG⟩
  exact ⟨he, S', h.step hJ hG, hG⟩
/-- a journal in order, no longer than j rounds make it -/
def Rounds (js : JS) (j : Nat) (s : List Nat) (r : List (List Nat)) : Prop := Good js s r ∧ Calm js.d ∧ js.d.room = 1048576 ∧ js.gen ≤ j + 1 ∧ (JB js.gen s r).length ≤ 400 + 400 * j
theorem rounds_add {js : JS} {j : Nat} {s : List Nat} {r : List (List Nat)} (h : Rounds js j s r) (hj : j ≤ 30) {a : List Nat} (ha : a.length ≤ 300) : Rounds (addM js a).1 (j + 1) s (r ++ [a]) ∧ (addM js a).2 = 0 := by
  obtain ⟨h1, h2, h3, h4, h5⟩ := h
  have hl := recB_le a
  have hS := add_steps h1 a (by omega) (by omega)
  obtain ⟨e, c, g, n⟩ := hS.calm' h2
  refine ⟨⟨g, c, hS.room.trans h3, by omega, ?_⟩, e⟩
  rw [jb_snoc, List.length_append, n]
  omega
theorem rounds_ck {js : JS} {j : Nat} {s : List Nat} {r : List (List Nat)} (h : Rounds js j s r) (hj : j ≤ 30) {a : List Nat} (ha : a.length ≤ 300) : Rounds (ckM js a).1 (j + 1) a [] ∧ (ckM js a).2 = 0 := by
  obtain ⟨h1, h2, h3, h4, h5⟩ := h
  have hl := hd_le (js.gen + 1) a
  have hS := ck_steps h1 a (by omega) (by omega) (by omega)
  obtain ⟨e, c, g, n⟩ := hS.calm' h2
  refine ⟨⟨g, c, hS.room.trans h3, by omega, ?_⟩, e⟩
  rw [jb_nil, n]
  omega
theorem rounds_first : Rounds (openM (newD 1048576)).1 0 [] [] ∧ (openM (newD 1048576)).2 = 0 := by
  have hr : roomN 1048576 = 1048576 := by decide
  have h1l := hd_le 1 []
  simp only [List.length_nil] at h1l
  obtain ⟨g1, c1, e1, n1, m1⟩ := first_good (n := 1048576) (by omega)
  refine ⟨⟨g1, c1, m1.trans hr, by omega, ?_⟩, e1⟩
  rw [n1, jb_nil]
  omega
/-- opened again, and behind a crash of nothing -/
theorem again_pure {js : JS} {j : Nat} {s : List Nat} {r : List (List Nat)} (h : Rounds js j s r) (hj : j ≤ 30) (n : Int) :
    (openM js.d = (⟨js.d, js.file, js.gen⟩, 0) ∧ (pick js.d).2.snap = s ∧ (pick js.d).2.recs = r) ∧ ((openM (js.d.fuseM n)).1.d = js.d.fuseM n ∧ (openM (js.d.fuseM n)).2 = 0) ∧
    (openM ((js.d.fuseM n).crashM 0 false) = (⟨(js.d.fuseM n).crashM 0 false, js.file, js.gen⟩, 0) ∧ (pick ((js.d.fuseM n).crashM 0 false)).2.snap = s ∧ (pick ((js.d.fuseM n).crashM 0 false)).2.recs = r) ∧
    ((js.d.fuseM n).crashM 0 false).b 0 = js.d.b 0 ∧ ((js.d.fuseM n).crashM 0 false).b 1 = js.d.b 1 := by
  obtain ⟨h1, h2, h3, h4, h5⟩ := h
  have hl : (JB js.gen s r).length < 18446744073709551616 := by omega
  have o1 := open_same ⟨h1.pos, h1.lt⟩ hl h1.has
  have hf : Has (js.d.fuseM n) js.file (JB js.gen s r) (JB js.gen s r).length [] 0 := by
    refine h1.has.of_eq ?_
    unfold DS.fuseM
    split <;> exact ⟨rfl, rfl, rfl, rfl⟩
  have o2 := open_same ⟨h1.pos, h1.lt⟩ hl hf
  have hc := (crash_has hf 0 false).1
  rw [crash_sure, crash_nil] at hc
  have o3 := open_same ⟨h1.pos, h1.lt⟩ hl hc
  have hb := h1.has
  refine ⟨⟨o1.1, by rw [o1.2], by rw [o1.2]⟩, ⟨by rw [o2.1], by rw [o2.1]⟩, ⟨o3.1, by rw [o3.2], by rw [o3.2]⟩, ?_⟩
  rcases h1.has.f01 with e | e
  · rw [e] at hb hc
    exact ⟨hc.bx.trans hb.bx.symm, hc.b_y.trans hb.b_y.symm⟩
  · rw [e] at hb hc
    exact ⟨hc.b_y.trans hb.b_y.symm, hc.bx.trans hb.bx.symm⟩
set_option maxHeartbeats 4000000 in
set_option maxRecDepth 100000 in
theorem again_law (A : Option Addr) (c : Nat) (ls : List JActM) (fu : Nat) (w : World) (hT : Tab w) (hr : jactE.Rd w w.heap.size A ls) (hok : ∀ x ∈ ls, x.Ok w) (hsz : ls.length ≤ 9223372036854775807) (hfu : fu < 256) :
    Calls Tryd.prog 7 #[.slice A ls.length c, .int .u8 (fu : Int)] w fun e w' => e = .returned (.bool true) ∧ Below w.heap.size w w' := by
  have CF := kept (few_any A c ls w hr hok hsz)
  have CW := kept (fun W (hb : Below w.heap.size w W) => works_any W (hT.next hb))
  by_cases hfew : fewA ls
  · have hd : decide (fewA ls) = true := decide_eq_true hfew
    rw [hd] at CF
    have h30 : ls.length ≤ 30 := hfew.1
    have HFEW := kept hfew.2
    have CN := kept (new_any 1048576 w)
    have HR := kept hr
    have HOK := kept hok
    have h4 : 0 < w.heap.size := hT.1
    clear hr hok hsz hd hfew
    go_enter Tryd.func7, Tryd.ntmps7
    go_wp2_with fail
    refine CF.out.mono ?_
    rintro e w' ⟨rfl, rfl⟩
    go_wp2_with fail
    refine CN.out.mono ?_
    rintro e w1 ⟨rfl, hd1, hb1⟩
    have C2 := kept (open_any _ _ _ w1 hd1 (hT.next hb1) w.heap.size hb1.size (fun k hk => by omega) h4)
    have HB1 := kept hb1
    clear hd1 hb1 CN CF
    go_wp2_with fail
    refine C2.out.mono ?_
    rintro e w2 ⟨S2, hG2, -, ⟨-, gj, A2, c2, X2, cX2, ps2, rfl, hgj, hJ2, -⟩ | ⟨he, -⟩⟩
    case inr => exact absurd rounds_first.2 he
    have J2 : JW w w2 S2 w.heap.size gj (openM (newD 1048576)).1 := ⟨hJ2, HB1.out.trans (hG2.below HB1.out.size (fun k hk => by omega)), fun k hk => hk.elim (fun h => (hG2.base HB1.out.size (fun k hk => by omega)) k h) (fun e => by have := HB1.out.size; omega)⟩
    clear hG2 hgj hJ2 C2 HB1
    have HJ2 := kept J2
    clear J2
    go_wp2_with fail
    go_loopw [10] (fun i wr => ∃ (j : Nat) (S : Nat → Prop) (js : JS) (s : List Nat) (r : List (List Nat)), j ≤ ls.length ∧ i = .int .i64 (j : Int) ∧ Kept (JW w wr S w.heap.size gj js ∧ Rounds js j s r)) (fun i _ => ls.length - (intOf i).toNat)
    case atStart => exact ⟨0, S2, _, _, _, Nat.zero_le _, rfl, ⟨HJ2.out, rounds_first.1⟩⟩
    case round =>
      obtain ⟨j, S, js, s, r, hj, rfl, hin⟩ := hrel
      by_cases hlt : j < ls.length
      · obtain ⟨x, hx⟩ : ∃ x, ls[j]? = some x := ⟨_, List.getElem?_eq_getElem hlt⟩
        have hxo := HOK.out x (List.mem_of_getElem? hx)
        have hx3 := HFEW.out x (List.mem_of_getElem? hx)
        obtain ⟨b, o, rfl, hbb, hcs⟩ := (HR.out.next hin.out.1.2.1).at_ hx
        obtain ⟨xk, xn, xt, xA, xb, xc⟩ := x
        have c0 : wr.cell? ⟨b, o + j * 4, none⟩ = some (.int .u8 (xk : Int)) := hcs 0 _ rfl
        have c3 : wr.cell? ⟨b, o + j * 4 + 3, none⟩ = some (.slice xA xb.length xc) := hcs 3 _ rfl
        obtain ⟨-, -, -, hrd, hab, -, -⟩ := hxo
        dsimp only at hrd hab hx3
        have hjn : (j : Int) < (ls.length : Int) := by omega
        have CA := kept (add_w hin.out.1 hT xA xc xb hab hrd hx3)
        have CC := kept (ck_w hin.out.1 hT xA xc xb hab hrd hx3)
        have RA := kept (rounds_add hin.out.2 (by omega) hx3)
        have RC := kept (rounds_ck hin.out.2 (by omega) hx3)
        clear hcs hx hrd hab hin hbb
        by_cases hk : xk = 3
        · subst hk
          go_wp2_with fail
          refine CC.out.mono ?_
          rintro e w3 ⟨rfl, S3, hJ3, -⟩
          have HN := kept (And.intro hJ3 RC.out.1)
          clear hJ3 CC CA RA RC
          go_wp2_with fail
          go_roundw
          case rel => exact ⟨j + 1, S3, _, _, _, by omega, rfl, HN⟩
          case measure => simp [intOf]; omega
        · go_wp2_with fail
          refine CA.out.mono ?_
          rintro e w3 ⟨rfl, S3, hJ3, -⟩
          have HN := kept (And.intro hJ3 RA.out.1)
          clear hJ3 CC CA RA RC
          go_wp2_with fail
          go_roundw
          case rel => exact ⟨j + 1, S3, _, _, _, by omega, rfl, HN⟩
          case measure => simp [intOf]; omega
      · have hjn : ¬ (j : Int) < (ls.length : Int) := by omega
        obtain ⟨hJ, hRd⟩ := hin.out
        obtain ⟨n, hn⟩ : ∃ n : Int, n = (fu : Int) % 4 := ⟨_, rfl⟩
        obtain ⟨⟨p1, p2, p3⟩, ⟨p4, p5⟩, ⟨p6, p7, p8⟩, p9, p10⟩ := again_pure hRd (by omega) n
        have C3 := kept (open_any S w.heap.size js.d wr hJ.1.1 (hJ.tab hT) w.heap.size hJ.2.1.size (fun k hk => hJ.2.2 k (.inl hk)) h4)
        have HBW := kept hJ.2.1
        have HSW := kept (fun k hk => hJ.2.2 k (.inl hk))
        have HP := kept (And.intro (And.intro p1 (And.intro p2 p3)) (And.intro (And.intro p4 p5) (And.intro (And.intro p6 (And.intro p7 p8)) (And.intro p9 p10))))
        have HN := kept hn
        clear hin hJ hRd p1 p2 p3 p4 p5 p6 p7 p8 p9 p10 hn HR HOK HFEW
        go_wp2_with fail
        refine C3.out.mono ?_
        rintro e w3 ⟨S3, hG3, hD3, ⟨-, gj3, A3, c3, X3, cX3, ps3, rfl, hgj3, hJ3, hbo3, hF3, hc3, hal3, -, hpl3⟩ | ⟨he, -⟩⟩
        case inr => exact absurd (by rw [HP.out.1.1]) he
        rw [HP.out.1.1] at hD3 hJ3
        have hb3 : Below w.heap.size w w3 := HBW.out.trans (hG3.below HBW.out.size HSW.out)
        have C4 := kept (copy_any S3 w.heap.size js.d w3 hD3)
        have HK3 := kept (And.intro hD3 (And.intro hJ3 (And.intro hbo3 (And.intro hF3 hb3))))
        have HAL3 := kept hal3
        have HPL3 := kept hpl3
        clear hG3 hD3 hJ3 hbo3 hF3 hb3 C3 HBW HSW hgj3 hal3 hpl3
        go_wp2_with fail
        refine C4.out.mono ?_
        rintro e w4 ⟨rfl, S4, hD4, hS4, hb4⟩
        have hn3 : 0 ≤ (fu : Int) % 4 ∧ (fu : Int) % 4 < 4 := by omega
        have C5 := kept (fuse_any S4 w3.heap.size js.d n w4 hD4 (by rw [HN.out]; omega))
        have HB4 := kept hb4
        clear hD4 hb4 C4
        go_wp2_with fail
        rw [← HN.out]
        refine C5.out.mono ?_
        rintro e w5 ⟨rfl, hD5, hU5⟩
        have hb35 : Below w3.heap.size w3 w5 := HB4.out.trans (hU5.below HB4.out.size (fun k _ hk => hS4 k hk))
        have hz35 := hb35.size
        have hbw3 := HK3.out.2.2.2.2
        have hz3 := hbw3.size
        have C6 := kept (open_any S4 w3.heap.size (js.d.fuseM n) w5 hD5 (hT.next (hbw3.trans (hb35.mono hz3))) w.heap.size (Nat.le_trans hz3 hz35) (fun k hk => by have := hS4 k hk; omega) h4)
        have HB5 := kept hb35
        have HS4 := kept hS4
        clear hD5 hU5 hb35 hS4 HB4 C5 hbw3
        go_wp2_with fail
        refine C6.out.mono ?_
        rintro e w6 ⟨S6, hG6, hD6, ⟨-, gj6, A6, c6, X6, cX6, ps6, rfl, -⟩ | ⟨he, -⟩⟩
        case inr => exact absurd HP.out.2.1.2 he
        rw [HP.out.2.1.1] at hD6
        have HS6 := kept (hG6.base (B := w3.heap.size) hz35 HS4.out)
        have HB6 := kept (HB5.out.trans (hG6.below (B := w3.heap.size) hz35 HS4.out))
        have C7 := kept (crash_any S6 w3.heap.size (js.d.fuseM n) 0 false w6 hD6)
        clear hG6 hD6 C6 HB5 HS4
        go_wp2_with fail
        refine C7.out.mono ?_
        rintro e w7 ⟨rfl, S7, hD7, hG7⟩
        have HS7 := kept (hG7.base (B := w3.heap.size) HB6.out.size HS6.out)
        have HB7 := kept (HB6.out.trans (hG7.below (B := w3.heap.size) HB6.out.size HS6.out))
        have hz37 := HB7.out.size
        have C8 := kept (open_any S7 w3.heap.size ((js.d.fuseM n).crashM 0 false) w7 hD7 (hT.next (HK3.out.2.2.2.2.trans (HB7.out.mono hz3))) w.heap.size (Nat.le_trans hz3 hz37) (fun k hk => by have := HS7.out k hk; omega) h4)
        clear hD7 hG7 C7 HB6 HS6
        go_wp2_with fail
        refine C8.out.mono ?_
        rintro e w8 ⟨S8, hG8, hD8, ⟨-, gj8, A8, c8, X8, cX8, ps8, rfl, hgj8, hJ8, hbo8, hF8, hc8, hal8, -, hpl8⟩ | ⟨he, -⟩⟩
        case inr => exact absurd (by rw [HP.out.2.2.1.1]) he
        rw [HP.out.2.2.1.1] at hD8 hJ8
        have hb38 : Below w3.heap.size w3 w8 := HB7.out.trans (hG8.below (B := w3.heap.size) hz37 HS7.out)
        obtain ⟨hD3, hJ3, hbo3, hF3, hb3⟩ := HK3.out
        have hF3' := hF3.next hb38
        have hal := HAL3.out
        have E1 := kept (equal_any w8 _ _ A3 A8 _ _ c3 c8 _ _ rfl rfl hal hal8 hF3'.1 hF8.1)
        have E2 := kept (rsame_any X3 X8 _ _ cX3 cX8 ps3 ps8 w8 rfl rfl hF3'.2.1 hF8.2.1 (by have := HPL3.out; omega) (by omega))
        have E3 := kept (fun (W : World) (hb : Below w8.heap.size w8 W) => gen_any S3 w.heap.size gj3 ⟨js.d, js.file, js.gen⟩ W ((hJ3.next hb38).next hb))
        have E4 := kept (fun (W : World) (hb : Below w8.heap.size w8 W) => gen_any S8 w3.heap.size gj8 ⟨(js.d.fuseM n).crashM 0 false, js.file, js.gen⟩ W (hJ8.next hb))
        have E5 : Kept (∀ f : Int, f = 0 ∨ f = 1 → ∀ W, Below w8.heap.size w8 W → Calls Tryd.prog 32 #[.pointer (some ⟨w3.heap.size, 0, none⟩), .int .i64 f] W (Gives W (js.d.b f))) := ⟨fun f hf W hb => by
          have := read_any S8 w3.heap.size _ f W (dsk_next hD8 hb) (by omega)
          rw [readM_b hf] at this
          have e : ((js.d.fuseM n).crashM 0 false).b f = js.d.b f := by
            rcases hf with rfl | rfl
            · exact HP.out.2.2.2.1
            · exact HP.out.2.2.2.2
          rw [← e]
          exact this⟩
        have E6 : Kept (∀ f : Int, f = 0 ∨ f = 1 → ∀ W, Below w8.heap.size w8 W → Calls Tryd.prog 32 #[.pointer (some ⟨w.heap.size, 0, none⟩), .int .i64 f] W (Gives W (js.d.b f))) := ⟨fun f hf W hb => by
          have := read_any S3 w.heap.size _ f W (dsk_next (dsk_next hD3 hb38) hb) (by omega)
          rw [readM_b hf] at this
          exact this⟩
        have E7 : Kept (∀ f : Int, AllB (js.d.b f)) := ⟨b_all hD3.1⟩
        dsimp only at E3 E4
        rw [HP.out.1.2.1] at E1
        rw [HP.out.2.2.1.2.1] at E1
        rw [HP.out.1.2.1, HP.out.2.2.1.2.1]
        have hd1 : decide (s = s) = true := decide_eq_true rfl
        rw [hd1] at E1
        rw [hbo3, hbo8, HP.out.1.2.2, HP.out.2.2.1.2.2, decide_eq_true (rfl : r = r)] at E2
        have HB8 := kept (And.intro hb3 hb38)
        clear hd1 hal hal8 hD3 hJ3 hbo3 hF3 hF3' hb3 hb38 hF8 hJ8 hD8 hG8 hbo8 hgj8 C8 HK3 HAL3 HPL3 HP HN HB7 HS7
        go_wp2_with fail
        refine E1.out.mono ?_
        rintro e w' ⟨rfl, rfl⟩
        go_wp2_with fail
        refine E2.out.mono ?_
        rintro e w' ⟨rfl, q, rfl⟩
        have hbq : Below w8.heap.size w8 (w8.drewN q) := ⟨rfl, rfl, rfl, Nat.le_refl _, fun _ _ => rfl⟩
        have G3 := kept (E3.out _ hbq)
        have G4 := kept (E4.out _ hbq)
        have R5 := kept (E5.out 0 (.inl rfl) _ hbq)
        clear E1 E2 E3 E4
        have HBQ := kept hbq
        clear hbq
        go_wp2_with fail
        refine G3.out.mono ?_
        rintro e w' ⟨rfl, rfl⟩
        go_wp2_with fail
        refine G4.out.mono ?_
        rintro e w' ⟨rfl, rfl⟩
        go_wp2_with fail
        refine R5.out.mono ?_
        rintro e wA ⟨B5, d5, rfl, ho5, hd5, hbA⟩
        have hbA8 : Below w8.heap.size w8 wA := HBQ.out.trans hbA
        have R6 := kept (E6.out 0 (.inl rfl) wA hbA8)
        have HO5 := kept ho5.rd
        have HBA := kept hbA8
        clear ho5 hbA hbA8 R5 G3 G4 HBQ hd5
        go_wp2_with fail
        refine R6.out.mono ?_
        rintro e wB ⟨B6, d6, rfl, ho6, hd6, hbB⟩
        have Q1 := kept (equal_any wB _ _ B5 B6 _ _ d5 d6 _ _ rfl rfl (E7.out 0) (E7.out 0) (HO5.out.next hbB) ho6.rd)
        rw [decide_eq_true (rfl : js.d.b 0 = js.d.b 0)] at Q1
        have hbB8 : Below w8.heap.size w8 wB := HBA.out.trans (hbB.mono HBA.out.size)
        have R7 := kept (E5.out 1 (.inr rfl) wB hbB8)
        have HBB := kept hbB8
        clear ho6 hbB hbB8 R6 HO5 HBA hd6 E5
        go_wp2_with fail
        refine Q1.out.mono ?_
        rintro e w' ⟨rfl, rfl⟩
        clear Q1
        go_wp2_with fail
        refine R7.out.mono ?_
        rintro e wC ⟨B7, d7, rfl, ho7, hd7, hbC⟩
        have hbC8 : Below w8.heap.size w8 wC := HBB.out.trans (hbC.mono HBB.out.size)
        have R8 := kept (E6.out 1 (.inr rfl) wC hbC8)
        have HO7 := kept ho7.rd
        have HBC := kept hbC8
        clear ho7 hbC hbC8 R7 HBB hd7 E6
        go_wp2_with fail
        refine R8.out.mono ?_
        rintro e wD ⟨B8, d8, rfl, ho8, hd8, hbD⟩
        have Q2 := kept (equal_any wD _ _ B7 B8 _ _ d7 d8 _ _ rfl rfl (E7.out 1) (E7.out 1) (HO7.out.next hbD) ho8.rd)
        rw [decide_eq_true (rfl : js.d.b 1 = js.d.b 1)] at Q2
        have hbD8 : Below w8.heap.size w8 wD := HBC.out.trans (hbD.mono HBC.out.size)
        have hbw : Below w.heap.size w wD := (HB8.out.1.trans (HB8.out.2.mono hz3)).trans (hbD8.mono (Nat.le_trans hz3 HB8.out.2.size))
        have W9 := kept (CW.out wD hbw)
        have HBD := kept hbw
        clear ho8 hbD hbD8 R8 HBC hd8 HO7 HB8 hbw
        go_wp2_with fail
        refine Q2.out.mono ?_
        rintro e w' ⟨rfl, rfl⟩
        clear Q2
        go_wp2_with fail
        refine W9.out.mono ?_
        rintro e wE ⟨rfl, hbE⟩
        have HE := kept (HBD.out.trans (hbE.mono HBD.out.size))
        clear hbE W9
        go_wp2_with fail
        go_ret
        exact ⟨rfl, HE.out⟩
  · have hd : decide (fewA ls) = false := decide_eq_false hfew
    rw [hd] at CF
    have CW1 := kept (CW.out w (Below.refl _ _))
    clear hr hok hd CW
    go_enter Tryd.func7, Tryd.ntmps7
    go_wp2_with fail
    refine CF.out.mono ?_
    rintro e w' ⟨rfl, rfl⟩
    go_wp2_with fail
    refine CW1.out.mono ?_
    rintro e w1 ⟨rfl, hb⟩
    have HB := kept hb
    clear hb
    go_wp2_with fail
    go_ret
    exact ⟨rfl, HB.out⟩
end Go.Proofs.YtdlghabpnpbebaaDoor.Jrn
