/- Layer 22 (disk): the law DiskPlays. -/
import Derived.Test.YtenkccfglmkdmaaDiskIs
import Derived.Test.YtenkccfglmkdmaaDiskWorks
import Derived.Deep.CutBlock
import Derived.Deep.DeepCutAuto
import Derived.Deep.RegionWith
namespace Go.Proofs.Ytenkccfglmkdmaa.Disk
open Go.RowKit Go.Proofs.Ytenkccfglmkdmaa.Mem

/-- what befalls a disk -/
structure PlayM where
  k : Nat
  f : Int
  n : Int
  t : Bool
  A : Option Addr
  b : List Nat
  c : Nat
instance : Inhabited PlayM := ⟨⟨0, 0, 0, false, none, [], 0⟩⟩
def PlayM.cells (x : PlayM) : List Value := [.int .u8 (x.k : Int), .int .i64 x.f, .int .i64 x.n, .bool x.t, .slice x.A x.b.length x.c]
def playE : Elem PlayM := ⟨PlayM.cells, 5, by decide, fun _ => rfl, fun x u hu => by
  simp only [PlayM.cells, List.mem_cons, List.not_mem_nil, or_false] at hu
  rcases hu with rfl | rfl | rfl | rfl | rfl <;> rfl⟩
def PlayM.Ok (W : World) (x : PlayM) : Prop := x.k < 256 ∧ (-9223372036854775808 ≤ x.f ∧ x.f ≤ 9223372036854775807) ∧ (-9223372036854775808 ≤ x.n ∧ x.n ≤ 9223372036854775807) ∧ True ∧ Rd W W.heap.size x.A (BB x.b) ∧ AllB x.b ∧ x.b.length ≤ x.c ∧ x.c ≤ 140737488351232
/-- where the example is answered: the law's loop -/
def PlSt (w W : World) (S : Nat → Prop) (g G : Nat) (d : DS) : Prop := Below w.heap.size w W ∧ Dsk W S g d ∧ (∀ k, S k → w.heap.size ≤ k ∧ k ≠ G) ∧ w.heap.size ≤ G ∧ Blk W G (rL d) 42
/-- within a round: the program's disk d, the document's one d', and the act x -/
def PlIn (w W : World) (S : Nat → Prop) (g G ga : Nat) (d d' : DS) (x : PlayM) : Prop :=
  Below w.heap.size w W ∧ Dsk W S g d ∧ (∀ k, S k → w.heap.size ≤ k ∧ k ≠ G ∧ k ≠ ga) ∧ (w.heap.size ≤ G ∧ w.heap.size ≤ ga ∧ ga ≠ G) ∧ Blk W G (rL d') 42 ∧ Blk W ga x.cells 45
section
variable {w W W' : World} {S S' : Nat → Prop} {g G ga : Nat} {d d' d2 : DS} {x : PlayM}
theorem PlIn.goes (h : PlIn w W S g G ga d d' x) (hd : Dsk W' S' g d2) (hg : Goes S W S' W') : PlIn w W' S' g G ga d2 d' x := by
  obtain ⟨h1, h2, h3, h4, h5, h6⟩ := h
  refine ⟨h1.trans (hg.below h1.size fun i hi => (h3 i hi).1), hd, fun k hk => (hg.2 k hk).elim (h3 k) fun h7 => ⟨Nat.le_trans h1.size h7, ?_, ?_⟩, h4, h5.upd hg.1 fun e => (h3 G e).2.1 rfl, h6.upd hg.1 fun e => (h3 ga e).2.2 rfl⟩
  · have := h5.lt; omega
  · have := h6.lt; omega
theorem PlIn.upd (h : PlIn w W S g G ga d d' x) (hd : Dsk W' S g d2) (hu : Upd S W W') : PlIn w W' S g G ga d2 d' x := h.goes hd ⟨hu, fun _ e => .inl e⟩
theorem PlIn.next (h : PlIn w W S g G ga d d' x) (hb : Below W.heap.size W W') : PlIn w W' S g G ga d d' x := h.upd (h.2.1.next hb) (Upd.of_below hb)
theorem PlIn.drewN (h : PlIn w W S g G ga d d' x) (q : Nat) : PlIn w (W.drewN q) S g G ga d d' x := h.next (below_draw _ W q)
theorem PlIn.store (h : PlIn w W S g G ga d d' x) (hk : Blk W' G (rL d2) 42) (hu : Upd (fun k => k = G) W W') : PlIn w W' S g G ga d d2 x := by
  obtain ⟨h1, h2, h3, h4, h5, h6⟩ := h
  exact ⟨h1.trans (hu.below h1.size fun i _ e => by omega), h2.upd hu fun k hk e => (h3 k hk).2.1 e, h3, h4, hk, h6.upd hu fun e => h4.2.2 e⟩
theorem PlIn.copied {g2 : Nat} (h : PlIn w W S g G ga d d' x) (hd : Dsk W' S' g2 d) (hS : ∀ k, S' k → W.heap.size ≤ k) (hb : Below W.heap.size W W') : PlIn w W' S' g2 G ga d d' x := by
  obtain ⟨h1, h2, h3, h4, h5, h6⟩ := h
  refine ⟨h1.trans (hb.mono h1.size), hd, fun k hk => ⟨Nat.le_trans h1.size (hS k hk), ?_, ?_⟩, h4, h5.next hb, h6.next hb⟩
  · have := h5.lt; have := hS k hk; omega
  · have := h6.lt; have := hS k hk; omega
/-- another disk on a ground apart is turned -/
theorem PlIn.away (h : PlIn w W S g G ga d d' x) {T T' : Nat → Prop} (hg : Goes T W T' W') (hT : ∀ k, T k → w.heap.size ≤ k ∧ k ≠ G ∧ k ≠ ga ∧ ¬ S k) : PlIn w W' S g G ga d d' x ∧ ∀ k, T' k → w.heap.size ≤ k ∧ k ≠ G ∧ k ≠ ga ∧ ¬ S k := by
  obtain ⟨h1, h2, h3, h4, h5, h6⟩ := h
  refine ⟨⟨h1.trans (hg.below h1.size fun i hi => (hT i hi).1), h2.upd hg.1 fun k hk e => (hT k e).2.2.2 hk, h3, h4, h5.upd hg.1 fun e => (hT G e).2.1 rfl, h6.upd hg.1 fun e => (hT ga e).2.2.1 rfl⟩, fun k hk => (hg.2 k hk).elim (hT k) fun h7 => ⟨Nat.le_trans h1.size h7, ?_, ?_, ?_⟩⟩
  · have := h5.lt; omega
  · have := h6.lt; omega
  · intro e; have := h2.under k e; omega
theorem PlIn.cell (h : PlIn w W S g G ga d d' x) {j : Nat} {u : Value} (hj : x.cells[j]? = some u) : W.cell? ⟨ga, j, none⟩ = some u := h.2.2.2.2.2.cell hj
theorem PlSt.start (h : PlSt w W S g G d) (x : PlayM) : PlIn w (W.alloc (.cells x.cells.toArray 45)) S g G W.heap.size d d x := by
  obtain ⟨h1, h2, h3, h4, h5⟩ := h
  have hb : Below W.heap.size W (W.alloc (.cells x.cells.toArray 45)) := (Below.refl _ _).alloc (Nat.le_refl _) _
  refine ⟨h1.trans (hb.mono h1.size), h2.next hb, fun k hk => ⟨(h3 k hk).1, (h3 k hk).2, ?_⟩, ⟨h4, h1.size, ?_⟩, h5.next hb, Blk.new W _ _⟩
  · have := h2.under k hk; omega
  · have := h5.lt; omega
theorem PlIn.back (h : PlIn w W S g G ga d d x) : PlSt w W S g G d := ⟨h.1, h.2.1, fun k hk => ⟨(h.2.2.1 k hk).1, (h.2.2.1 k hk).2.1⟩, h.2.2.2.1.1, h.2.2.2.2.1⟩
theorem PlSt.next (h : PlSt w W S g G d) (hb : Below W.heap.size W W') : PlSt w W' S g G d := ⟨h.1.trans (hb.mono h.1.size), h.2.1.next hb, h.2.2.1, h.2.2.2.1, h.2.2.2.2.next hb⟩
end
theorem rd_off {w : World} {A : Option Addr} {xs : List Value} (h : Rd w w.heap.size A xs) {g : Nat} (hg : w.heap.size ≤ g) : ∀ x, A = some x → xs ≠ [] → x.block ≠ g := fun x hx hne => by
  obtain ⟨b', o', e', h3, _⟩ := h hne
  rw [hx] at e'
  obtain rfl := Option.some.inj e'
  show b' ≠ g
  omega
theorem below_nx {w w1 w2 : World} (h : Below w.heap.size w w1) (h2 : Below w1.heap.size w1 w2) : Below w.heap.size w w2 := h.trans (h2.mono h.size)
theorem rroom_ds (d : DS) (n : Int) (w : World) : Calls Try.prog 23 #[rV d, .int .i64 n] w (RGives w (rV (d.roomM n))) := rsetroom_any _ _ _ _ _ _ _ n w
theorem rfuse_ds (d : DS) (n : Int) (w : World) : Calls Try.prog 24 #[rV d, .int .i64 n] w (RGives w (rV (d.fuseM n))) := by
  have h := rsetfuse_any (strB d.b0) (strB d.b1) d.s0 d.s1 d.room d.fuse d.down n w
  obtain ⟨b0, s0, b1, s1, room, fuse, down⟩ := d
  cases down with
  | true => exact h
  | false => exact h

set_option maxRecDepth 100000 in
set_option maxHeartbeats 16000000 in
theorem plays_law (room : Int) (A : Option Addr) (c : Nat) (ls : List PlayM) (w : World) (hr : playE.Rd w w.heap.size A ls) (hok : ∀ x ∈ ls, x.Ok w) (hsz : ls.length ≤ 9223372036854775807) :
    Calls Try.prog 5 #[.int .i64 room, .slice A ls.length c] w fun en w' => en = .returned (.bool true) ∧ Below w.heap.size w w' := by
  have CW := kept (fun W => works_any W)
  by_cases hbig : 60 < ls.length
  · clear hr hok
    generalize ls.length = N at *
    go_enter Try.func5, Try.ntmps5
    go_wp2_with fail
    refine (CW.out _).mono ?_
    rintro en w2 ⟨rfl, hb2⟩
    go_wp2
    go_ret
    exact ⟨rfl, hb2⟩
  have h60 : ls.length ≤ 60 := by omega
  clear hbig hsz
  have HR := kept hr
  have HOK := kept hok
  have CN := kept (new_any room w)
  have CR := kept (fun W => rnew_any room W)
  generalize newD room = d0 at *
  clear hr hok
  go_enter Try.func5, Try.ntmps5
  go_wp2_with fail
  refine CN.out.mono ?_
  rintro en w1 ⟨rfl, hd1, hb1⟩
  have HD1 := kept hd1
  have HB1 := kept hb1
  clear hd1 hb1 CN
  go_wp2_with fail
  refine (CR.out _).mono ?_
  rintro en w2 ⟨rfl, hb2⟩
  have hlt : w.heap.size < w1.heap.size := HD1.out.under _ rfl
  have hz2 := hb2.size
  have hk0 : Blk (w2.alloc (.cells #[.string ⟨#[]⟩, .string ⟨#[]⟩, .int .i64 0, .int .i64 0, .int .i64 0, .int .i64 0, .bool false] 42)) w2.heap.size [.string ⟨#[]⟩, .string ⟨#[]⟩, .int .i64 0, .int .i64 0, .int .i64 0, .int .i64 0, .bool false] 42 := Blk.new w2 _ _
  have HSTA : Kept (∀ w3, Blk w3 w2.heap.size (rL d0) 42 → Upd (fun k => k = w2.heap.size) (w2.alloc (.cells #[.string ⟨#[]⟩, .string ⟨#[]⟩, .int .i64 0, .int .i64 0, .int .i64 0, .int .i64 0, .bool false] 42)) w3 → PlSt w w3 (fun k => k = w.heap.size) w.heap.size w2.heap.size d0) :=
    ⟨fun w3 hk hu => ⟨((HB1.out.trans (hb2.mono HB1.out.size)).alloc (Nat.le_trans HB1.out.size hz2) _).trans (hu.below (by simp; omega) fun i _ e => by omega), ((HD1.out.next hb2).next ((Below.refl _ _).alloc (Nat.le_refl _) _)).upd hu (fun k hk e => by omega), (fun k hk => by subst hk; exact ⟨Nat.le_refl _, by omega⟩), by omega, hk⟩⟩
  clear hb2 HD1 HB1 CR
  go_wp2_with (refine wpl_storeB rfl _ _ _ rfl w2.heap.size (rL d0) rfl rfl _ _ hk0 rfl rfl rfl ?_; intro w3 hk3 hu3; have HST := kept (HSTA.out _ hk3 hu3); clear hk3 hu3 hk0 HSTA)
  clear hz2 hlt
  generalize w2.heap.size = G at HST ⊢
  go_loopw [5, 7] (fun p i wr => ∃ (j : Nat) (S : Nat → Prop) (g : Nat) (d : DS), j ≤ ls.length ∧ i = .int .i64 (j : Int) ∧ p = .pointer (some ⟨g, 0, none⟩) ∧ PlSt w wr S g G d) (fun _ i _ => ls.length - (intOf i).toNat)
  case atStart => exact ⟨0, _, _, _, Nat.zero_le _, rfl, rfl, HST.out⟩
  case round =>
    obtain ⟨j, S, g, d, hj, rfl, rfl, hin⟩ := hrel
    by_cases hlt : j < ls.length
    · obtain ⟨x, hx⟩ : ∃ x, ls[j]? = some x := ⟨_, List.getElem?_eq_getElem hlt⟩
      have hxo := HOK.out x (List.mem_of_getElem? hx)
      obtain ⟨xk, xf, xn, xt, xA, xb, xc⟩ := x
      obtain ⟨b, o, rfl, hbb, hcs⟩ := (HR.out.next hin.1).at_ hx
      have c0 : wr.cell? ⟨b, o + j * 5, none⟩ = some (.int .u8 (xk : Int)) := hcs 0 _ rfl
      have c1 : wr.cell? ⟨b, o + j * 5 + 1, none⟩ = some (.int .i64 xf) := hcs 1 _ rfl
      have c2 : wr.cell? ⟨b, o + j * 5 + 2, none⟩ = some (.int .i64 xn) := hcs 2 _ rfl
      have c3 : wr.cell? ⟨b, o + j * 5 + 3, none⟩ = some (.bool xt) := hcs 3 _ rfl
      have c4 : wr.cell? ⟨b, o + j * 5 + 4, none⟩ = some (.slice xA xb.length xc) := hcs 4 _ rfl
      obtain ⟨hk0, hf0, hn0, -, hrd, hab, hle, hcc⟩ := hxo
      dsimp only at hk0 hf0 hn0 hrd hab hle hcc
      have HI := kept (hin.start ⟨xk, xf, xn, xt, xA, xb, xc⟩)
      have HAB := kept hab
      have HRD := kept hrd
      have hjn : (j : Int) < (ls.length : Int) := by omega
      clear hcs hx hrd hab
      have HK : Kept (xk = 0 ∨ xk = 1 ∨ xk = 2 ∨ xk = 3 ∨ xk = 4 ∨ xk = 5 ∨ xk = 6 ∨ xk = 7 ∨ 7 < xk) := ⟨by omega⟩
      go_upto_block 2 with fail
      go_cut [5, 9, 10] (fun p e f wx => ∃ (S' : Nat → Prop) (g' : Nat) (d' : DS) (r : Nat), p = .pointer (some ⟨g', 0, none⟩) ∧ e = .int .i64 (r : Int) ∧ f = .int .i64 (r : Int) ∧ PlIn w wx S' g' G wr.heap.size d' d' ⟨xk, xf, xn, xt, xA, xb, xc⟩)
      case first =>
        have hsw := (HI.out.2.2.1 g HI.out.2.1.2.1).1
        have HOKD := kept (HI.out.2.1.ok)
        rcases HK.out with rfl | rfl | rfl | rfl | rfl | rfl | rfl | rfl | h7
        · have hd0 := HI.out.2.1
          have CA := kept (app_any S g d xf xA _ xc xb _ hd0 hf0 HAB.out rfl (HRD.out.next HI.out.1) (rd_off HRD.out hsw) (by omega))
          clear hd0
          go_wp2_with fail
          refine CA.out.mono ?_
          rintro en w5 ⟨rfl, S5, hd5, hg5⟩
          have HI5 := kept (HI.out.goes hd5 hg5)
          clear hd5 hg5 CA
          have hk5 := HI5.out.2.2.2.2.1
          have z1 : w5.cell? ⟨wr.heap.size, 1, none⟩ = some (.int .i64 xf) := HI5.out.cell rfl
          have z2 : w5.cell? ⟨wr.heap.size, 2, none⟩ = some (.int .i64 xn) := HI5.out.cell rfl
          have z3 : w5.cell? ⟨wr.heap.size, 3, none⟩ = some (.bool xt) := HI5.out.cell rfl
          have z4 : w5.cell? ⟨wr.heap.size, 4, none⟩ = some (.slice xA xb.length xc) := HI5.out.cell rfl
          have hzl := HI5.out.2.2.2.2.2.lt
          go_wp2_with (refine wpl_loadB rfl _ _ rfl G rfl _ _ hk5 _ rfl rfl rfl ?_)
          refine (rapp_any d xf xA _ xc xb _ HOKD.out rfl (HRD.out.next HI5.out.1) (by omega)).mono ?_
          rintro en w6 ⟨rfl, hb6⟩
          have HI6 := kept (HI5.out.next hb6)
          have hk6 := HI6.out.2.2.2.2.1
          clear hb6 HI5 hk5 z1 z2 z3 z4 hzl
          go_wp2_with (refine wpl_storeB rfl _ _ _ rfl G (rL (d.appM xf xb).1) rfl rfl _ _ hk6 rfl rfl rfl ?_; intro w7 hk7 hu7; have HI7 := kept (HI6.out.store hk7 hu7))
          go_meet
          case rel => exact ⟨_, _, _, _, rfl, rfl, rfl, HI7.out⟩
        · have hd0 := HI.out.2.1
          have CA := kept (app_any S g d xf xA _ xc xb _ hd0 hf0 HAB.out rfl (HRD.out.next HI.out.1) (rd_off HRD.out hsw) (by omega))
          clear hd0
          go_wp2_with fail
          refine CA.out.mono ?_
          rintro en w5 ⟨rfl, S5, hd5, hg5⟩
          have HI5 := kept (HI.out.goes hd5 hg5)
          clear hd5 hg5 CA
          have hk5 := HI5.out.2.2.2.2.1
          have z1 : w5.cell? ⟨wr.heap.size, 1, none⟩ = some (.int .i64 xf) := HI5.out.cell rfl
          have z2 : w5.cell? ⟨wr.heap.size, 2, none⟩ = some (.int .i64 xn) := HI5.out.cell rfl
          have z3 : w5.cell? ⟨wr.heap.size, 3, none⟩ = some (.bool xt) := HI5.out.cell rfl
          have z4 : w5.cell? ⟨wr.heap.size, 4, none⟩ = some (.slice xA xb.length xc) := HI5.out.cell rfl
          have hzl := HI5.out.2.2.2.2.2.lt
          go_wp2_with (refine wpl_loadB rfl _ _ rfl G rfl _ _ hk5 _ rfl rfl rfl ?_)
          refine (rapp_any d xf xA _ xc xb _ HOKD.out rfl (HRD.out.next HI5.out.1) (by omega)).mono ?_
          rintro en w6 ⟨rfl, hb6⟩
          have HI6 := kept (HI5.out.next hb6)
          have hk6 := HI6.out.2.2.2.2.1
          clear hb6 HI5 hk5 z1 z2 z3 z4 hzl
          go_wp2_with (refine wpl_storeB rfl _ _ _ rfl G (rL (d.appM xf xb).1) rfl rfl _ _ hk6 rfl rfl rfl ?_; intro w7 hk7 hu7; have HI7 := kept (HI6.out.store hk7 hu7))
          go_meet
          case rel => exact ⟨_, _, _, _, rfl, rfl, rfl, HI7.out⟩
        · have hd0 := HI.out.2.1
          have CA := kept (sync_any S g d xf _ hd0 hf0)
          clear hd0
          go_wp2_with fail
          refine CA.out.mono ?_
          rintro en w5 ⟨rfl, S5, hd5, hg5⟩
          have HI5 := kept (HI.out.goes hd5 hg5)
          clear hd5 hg5 CA
          have hk5 := HI5.out.2.2.2.2.1
          have z1 : w5.cell? ⟨wr.heap.size, 1, none⟩ = some (.int .i64 xf) := HI5.out.cell rfl
          have z2 : w5.cell? ⟨wr.heap.size, 2, none⟩ = some (.int .i64 xn) := HI5.out.cell rfl
          have z3 : w5.cell? ⟨wr.heap.size, 3, none⟩ = some (.bool xt) := HI5.out.cell rfl
          have z4 : w5.cell? ⟨wr.heap.size, 4, none⟩ = some (.slice xA xb.length xc) := HI5.out.cell rfl
          have hzl := HI5.out.2.2.2.2.2.lt
          go_wp2_with (refine wpl_loadB rfl _ _ rfl G rfl _ _ hk5 _ rfl rfl rfl ?_)
          refine (rsync_any d xf _ HOKD.out).mono ?_
          rintro en w6 ⟨rfl, hb6⟩
          have HI6 := kept (HI5.out.next hb6)
          have hk6 := HI6.out.2.2.2.2.1
          clear hb6 HI5 hk5 z1 z2 z3 z4 hzl
          go_wp2_with (refine wpl_storeB rfl _ _ _ rfl G (rL (d.syncM xf).1) rfl rfl _ _ hk6 rfl rfl rfl ?_; intro w7 hk7 hu7; have HI7 := kept (HI6.out.store hk7 hu7))
          go_meet
          case rel => exact ⟨_, _, _, _, rfl, rfl, rfl, HI7.out⟩
        · have hd0 := HI.out.2.1
          have CA := kept (cut_any S g d xf xn _ hd0 hf0)
          clear hd0
          go_wp2_with fail
          refine CA.out.mono ?_
          rintro en w5 ⟨rfl, S5, hd5, hg5⟩
          have HI5 := kept (HI.out.goes hd5 hg5)
          clear hd5 hg5 CA
          have hk5 := HI5.out.2.2.2.2.1
          have z1 : w5.cell? ⟨wr.heap.size, 1, none⟩ = some (.int .i64 xf) := HI5.out.cell rfl
          have z2 : w5.cell? ⟨wr.heap.size, 2, none⟩ = some (.int .i64 xn) := HI5.out.cell rfl
          have z3 : w5.cell? ⟨wr.heap.size, 3, none⟩ = some (.bool xt) := HI5.out.cell rfl
          have z4 : w5.cell? ⟨wr.heap.size, 4, none⟩ = some (.slice xA xb.length xc) := HI5.out.cell rfl
          have hzl := HI5.out.2.2.2.2.2.lt
          go_wp2_with (refine wpl_loadB rfl _ _ rfl G rfl _ _ hk5 _ rfl rfl rfl ?_)
          refine (rcut_any d xf xn _ HOKD.out).mono ?_
          rintro en w6 ⟨rfl, hb6⟩
          have HI6 := kept (HI5.out.next hb6)
          have hk6 := HI6.out.2.2.2.2.1
          clear hb6 HI5 hk5 z1 z2 z3 z4 hzl
          go_wp2_with (refine wpl_storeB rfl _ _ _ rfl G (rL (d.cutM xf xn).1) rfl rfl _ _ hk6 rfl rfl rfl ?_; intro w7 hk7 hu7; have HI7 := kept (HI6.out.store hk7 hu7))
          go_meet
          case rel => exact ⟨_, _, _, _, rfl, rfl, rfl, HI7.out⟩
        · have hd0 := HI.out.2.1
          have CA := kept (room_any S g d xn _ hd0)
          clear hd0
          go_wp2_with fail
          refine CA.out.mono ?_
          rintro en w5 ⟨rfl, hd5, hu5⟩
          have HI5 := kept (HI.out.upd hd5 hu5)
          clear hd5 hu5 CA
          have hk5 := HI5.out.2.2.2.2.1
          have z1 : w5.cell? ⟨wr.heap.size, 1, none⟩ = some (.int .i64 xf) := HI5.out.cell rfl
          have z2 : w5.cell? ⟨wr.heap.size, 2, none⟩ = some (.int .i64 xn) := HI5.out.cell rfl
          have z3 : w5.cell? ⟨wr.heap.size, 3, none⟩ = some (.bool xt) := HI5.out.cell rfl
          have z4 : w5.cell? ⟨wr.heap.size, 4, none⟩ = some (.slice xA xb.length xc) := HI5.out.cell rfl
          have hzl := HI5.out.2.2.2.2.2.lt
          go_wp2_with (refine wpl_loadB rfl _ _ rfl G rfl _ _ hk5 _ rfl rfl rfl ?_)
          refine (rroom_ds d xn _).mono ?_
          rintro en w6 ⟨rfl, hb6⟩
          have HI6 := kept (HI5.out.next hb6)
          have hk6 := HI6.out.2.2.2.2.1
          clear hb6 HI5 hk5 z1 z2 z3 z4 hzl
          go_wp2_with (refine wpl_storeB rfl _ _ _ rfl G (rL (d.roomM xn)) rfl rfl _ _ hk6 rfl rfl rfl ?_; intro w7 hk7 hu7; have HI7 := kept (HI6.out.store hk7 hu7))
          go_meet
          case rel => exact ⟨_, _, _, _, rfl, rfl, rfl, HI7.out⟩
        · have hd0 := HI.out.2.1
          have CA := kept (fuse_any S g d xn _ hd0 hn0)
          clear hd0
          go_wp2_with fail
          refine CA.out.mono ?_
          rintro en w5 ⟨rfl, hd5, hu5⟩
          have HI5 := kept (HI.out.upd hd5 hu5)
          clear hd5 hu5 CA
          have hk5 := HI5.out.2.2.2.2.1
          have z1 : w5.cell? ⟨wr.heap.size, 1, none⟩ = some (.int .i64 xf) := HI5.out.cell rfl
          have z2 : w5.cell? ⟨wr.heap.size, 2, none⟩ = some (.int .i64 xn) := HI5.out.cell rfl
          have z3 : w5.cell? ⟨wr.heap.size, 3, none⟩ = some (.bool xt) := HI5.out.cell rfl
          have z4 : w5.cell? ⟨wr.heap.size, 4, none⟩ = some (.slice xA xb.length xc) := HI5.out.cell rfl
          have hzl := HI5.out.2.2.2.2.2.lt
          go_wp2_with (refine wpl_loadB rfl _ _ rfl G rfl _ _ hk5 _ rfl rfl rfl ?_)
          refine (rfuse_ds d xn _).mono ?_
          rintro en w6 ⟨rfl, hb6⟩
          have HI6 := kept (HI5.out.next hb6)
          have hk6 := HI6.out.2.2.2.2.1
          clear hb6 HI5 hk5 z1 z2 z3 z4 hzl
          go_wp2_with (refine wpl_storeB rfl _ _ _ rfl G (rL (d.fuseM xn)) rfl rfl _ _ hk6 rfl rfl rfl ?_; intro w7 hk7 hu7; have HI7 := kept (HI6.out.store hk7 hu7))
          go_meet
          case rel => exact ⟨_, _, _, _, rfl, rfl, rfl, HI7.out⟩
        · have hd0 := HI.out.2.1
          have CA := kept (crash_any S g d xn xt _ hd0)
          clear hd0
          go_wp2_with fail
          refine CA.out.mono ?_
          rintro en w5 ⟨rfl, S5, hd5, hg5⟩
          have HI5 := kept (HI.out.goes hd5 hg5)
          clear hd5 hg5 CA
          have hk5 := HI5.out.2.2.2.2.1
          have z1 : w5.cell? ⟨wr.heap.size, 1, none⟩ = some (.int .i64 xf) := HI5.out.cell rfl
          have z2 : w5.cell? ⟨wr.heap.size, 2, none⟩ = some (.int .i64 xn) := HI5.out.cell rfl
          have z3 : w5.cell? ⟨wr.heap.size, 3, none⟩ = some (.bool xt) := HI5.out.cell rfl
          have z4 : w5.cell? ⟨wr.heap.size, 4, none⟩ = some (.slice xA xb.length xc) := HI5.out.cell rfl
          have hzl := HI5.out.2.2.2.2.2.lt
          go_wp2_with (refine wpl_loadB rfl _ _ rfl G rfl _ _ hk5 _ rfl rfl rfl ?_)
          refine (rcrash_any d xn xt _ HOKD.out hn0).mono ?_
          rintro en w6 ⟨rfl, hb6⟩
          have HI6 := kept (HI5.out.next hb6)
          have hk6 := HI6.out.2.2.2.2.1
          clear hb6 HI5 hk5 z1 z2 z3 z4 hzl
          go_wp2_with (refine wpl_storeB rfl _ _ _ rfl G (rL (d.crashM xn xt)) rfl rfl _ _ hk6 rfl rfl rfl ?_; intro w7 hk7 hu7; have HI7 := kept (HI6.out.store hk7 hu7))
          go_meet
          case rel => exact ⟨_, _, _, _, rfl, rfl, rfl, HI7.out⟩
        · have hd0 := HI.out.2.1
          have CA := kept (copy_any S g d _ hd0)
          clear hd0
          go_wp2_with fail
          refine CA.out.mono ?_
          rintro en w5 ⟨rfl, S5, hd5, hs5, hb5⟩
          have HI5 := kept (HI.out.copied hd5 hs5 hb5)
          have HO5 := kept (HI.out.2.1.next hb5)
          have HS5 : Kept (∀ k, S k → w.heap.size ≤ k ∧ k ≠ G ∧ k ≠ wr.heap.size ∧ ¬ S5 k) := ⟨fun k hk => ⟨(HI.out.2.2.1 k hk).1, (HI.out.2.2.1 k hk).2.1, (HI.out.2.2.1 k hk).2.2, fun e => by have h1 := hs5 k e; have h2 := HI.out.2.1.under k hk; omega⟩⟩
          have CB := kept (app_any S g d 0 xA _ xc xb _ HO5.out (by decide) HAB.out rfl (HRD.out.next HI5.out.1) (rd_off HRD.out hsw) (by omega))
          have z4 : w5.cell? ⟨wr.heap.size, 4, none⟩ = some (.slice xA xb.length xc) := HI5.out.cell rfl
          have hzl := HI5.out.2.2.2.2.2.lt
          clear hd5 hs5 hb5 CA
          go_wp2_with fail
          refine CB.out.mono ?_
          rintro en w6 ⟨rfl, S6, hd6, hg6⟩
          obtain ⟨h61, h62⟩ := HI5.out.away hg6 HS5.out
          have HI6 := kept h61
          have HS6 := kept h62
          have CC := kept (sync_any S6 g _ 1 _ hd6 (by decide))
          clear hd6 hg6 h61 h62 CB z4 hzl
          go_wp2_with fail
          refine CC.out.mono ?_
          rintro en w7 ⟨rfl, S7, hd7, hg7⟩
          obtain ⟨h71, h72⟩ := HI6.out.away hg7 HS6.out
          have HI7 := kept h71
          have HS7 := kept h72
          have CD := kept (crash_any S7 g _ 0 xt _ hd7)
          have z3 : w7.cell? ⟨wr.heap.size, 3, none⟩ = some (.bool xt) := HI7.out.cell rfl
          have hzl := HI7.out.2.2.2.2.2.lt
          clear hd7 hg7 h71 h72 CC
          go_wp2_with fail
          refine CD.out.mono ?_
          rintro en w8 ⟨rfl, S8, hd8, hg8⟩
          obtain ⟨h81, h82⟩ := HI7.out.away hg8 HS7.out
          have HI8 := kept h81
          clear hd8 hg8 h81 h82 CD z3 hzl
          go_wp2
          go_meet
          case rel => exact ⟨_, _, _, 0, (by simp), rfl, rfl, HI8.out⟩
        · have q0 : ((xk : Int) == 0) = false := by simp; omega
          have q1 : ((xk : Int) == 1) = false := by simp; omega
          have q2 : ((xk : Int) == 2) = false := by simp; omega
          have q3 : ((xk : Int) == 3) = false := by simp; omega
          have q4 : ((xk : Int) == 4) = false := by simp; omega
          have q5 : ((xk : Int) == 5) = false := by simp; omega
          have q6 : ((xk : Int) == 6) = false := by simp; omega
          have q7 : ((xk : Int) == 7) = false := by simp; omega
          go_wp2
          go_meet
          case rel => exact ⟨_, _, _, 0, rfl, rfl, rfl, HI.out⟩
      case rest =>
        obtain ⟨S', g', d', r, rfl, rfl, rfl, hI⟩ := hcut
        have HIN := kept hI
        have hk5 := hI.2.2.2.2.1
        have CI := kept (is_ref S' g' d' wc hI.2.1)
        have CRD := kept (fun W (hb : Below wc.heap.size wc W) => read_any S' g' d' xf W (hI.2.1.next hb) hf0)
        have hread : isF xf = false → d'.readM xf = [] := fun h => by unfold DS.readM; rw [h]; rfl
        have HZ : Kept (∀ W, Below wc.heap.size wc W → W.cell? ⟨wr.heap.size, 1, none⟩ = some (.int .i64 xf) ∧ wr.heap.size < W.heap.size) := ⟨fun W hb => ⟨(hI.next hb).cell rfl, (hI.next hb).2.2.2.2.2.lt⟩⟩
        clear hI
        have hfc : xf = 0 ∨ xf = 1 ∨ (d'.readM xf = [] ∧ (xf == 0) = false ∧ (xf == 1) = false) := by
          by_cases h0 : xf = 0
          · exact .inl h0
          · by_cases h1 : xf = 1
            · exact .inr (.inl h1)
            · exact .inr (.inr ⟨hread (by simp [isF, h0, h1]), by simpa using h0, by simpa using h1⟩)
        clear hread
        rcases hfc with rfl | rfl | ⟨hrm, hf3, hf4⟩
        all_goals
          go_wp2_with (refine wpl_loadBG (by rfl) _ _ rfl G rfl _ _ hk5 _ rfl rfl rfl ?_)
          refine CI.out.mono ?_
          rintro en w8 ⟨rfl, hb8⟩
          obtain ⟨z1, hzl⟩ := HZ.out _ hb8
          have CD := kept (CRD.out _ hb8)
          first | rw [hrm] at CD | skip
          have HB8 := kept hb8
          clear hb8 CI CRD HZ hk5
          go_wp2_with fail
          refine CD.out.mono ?_
          rintro en w9 ⟨A9, c9, rfl, -, -, hb9⟩
          have hb10 := below_nx HB8.out hb9
          have HF := kept ((HIN.out.next hb10).back)
          have z1 : w9.cell? ⟨wr.heap.size, 1, none⟩ = some (.int .i64 _) := (HIN.out.next hb10).cell rfl
          have hzl := (HIN.out.next hb10).2.2.2.2.2.lt
          clear hb9 hb10 CD HB8
          go_wp2
          all_goals go_roundw
          all_goals first | exact ⟨j + 1, _, _, _, by omega, by go_num, rfl, HF.out⟩ | (simp [intOf]; omega)
    · have HST2 := kept hin
      have hk5 := hin.2.2.2.2
      have CI := kept (is_ref S g d wr hin.2.1)
      have HB := kept hin.1
      clear hin
      go_wp2_with (refine wpl_loadB rfl _ _ rfl G rfl _ _ hk5 _ rfl rfl rfl ?_)
      refine CI.out.mono ?_
      rintro en w8 ⟨rfl, hb8⟩
      have HB8 := kept (HB.out.trans (hb8.mono HB.out.size))
      clear hb8 CI
      go_wp2_with fail
      refine (CW.out _).mono ?_
      rintro en w9 ⟨rfl, hb9⟩
      have HB9 := kept (HB8.out.trans (hb9.mono HB8.out.size))
      clear hb9
      go_wp2
      go_ret
      exact ⟨rfl, HB9.out⟩
end Go.Proofs.Ytenkccfglmkdmaa.Disk
