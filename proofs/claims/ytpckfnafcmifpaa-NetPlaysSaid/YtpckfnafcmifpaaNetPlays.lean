/- Layer 36 (net): the law NetPlays. -/
import Derived.Test.YtpckfnafcmifpaaNetRefB
import Derived.Test.YtpckfnafcmifpaaNetFull
namespace Go.Proofs.Ytpckfnafcmifpaa.Net
open Go.RowKit Go.Proofs.Ytpckfnafcmifpaa.Mem

/-- what befalls a net -/
structure ActM where
  k : Nat
  t : Int
  p : Int
  m : Nat
  A : Option Addr
  b : List Nat
  c : Nat
instance : Inhabited ActM := ⟨⟨0, 0, 0, 0, none, [], 0⟩⟩
def ActM.cells (x : ActM) : List Value := [.int .u8 (x.k : Int), .int .i64 x.t, .int .i64 x.p, .int .u32 (x.m : Int), .slice x.A x.b.length x.c]
def nactE : Elem ActM := ⟨ActM.cells, 5, by decide, fun _ => rfl, fun x u hu => by
  simp only [ActM.cells, List.mem_cons, List.not_mem_nil, or_false] at hu
  rcases hu with rfl | rfl | rfl | rfl | rfl <;> rfl⟩
def ActM.Ok (W : World) (x : ActM) : Prop := x.k < 256 ∧ (-9223372036854775808 ≤ x.t ∧ x.t ≤ 9223372036854775807) ∧ (-9223372036854775808 ≤ x.p ∧ x.p ≤ 9223372036854775807) ∧ x.m < 4294967296 ∧ Rd W W.heap.size x.A (BB x.b) ∧ AllB x.b ∧ x.b.length ≤ x.c ∧ x.c ≤ 140737488351232
/-- the net, and the document's rows apart from it -/
def PM (w W : World) (S : Nat → Prop) (g : Nat) (X : Option Addr) (xs ys : List OneM) : Prop :=
  Below w.heap.size w W ∧ Nst W S g xs ∧ (∀ k, S k → w.heap.size ≤ k) ∧ oneE.Rd W W.heap.size X ys ∧ (ys ≠ [] → ∀ a, X = some a → ¬ S a.block) ∧ ∀ y ∈ ys, Ap W S y.A (BB y.b)
/-- within a round: the act x in a block of its own -/
def PI (w W : World) (S : Nat → Prop) (g ga : Nat) (X : Option Addr) (xs ys : List OneM) (x : ActM) : Prop := PM w W S g X xs ys ∧ Blk W ga x.cells 56 ∧ ¬ S ga
section
variable {w W W' : World} {S S' : Nat → Prop} {g ga : Nat} {X X' : Option Addr} {xs xs' ys ys' : List OneM} {x : ActM} {c : Nat}
theorem PM.goes (h : PM w W S g X xs ys) (hN : Nst W' S' g xs') (hG : Goes S W S' W') : PM w W' S' g X xs' ys := by
  obtain ⟨h1, h2, h3, h4, h5, h6⟩ := h
  have hXA : Ap W S X (oneE.cells ys) := ⟨h4, fun a ha hne => h5 (fun e => hne (by rw [e]; rfl)) a ha⟩
  have hXB := hXA.goes hG
  refine ⟨h1.trans (hG.below h1.size h3), hN, hG.base h1.size h3, hXB.1, fun hne a ha => hXB.2 a ha fun e => ?_, fun y hy => (h6 y hy).goes hG⟩
  have h9 := oneE.cells_length ys
  rw [e, show oneE.k = 3 from rfl] at h9
  exact hne (List.eq_nil_of_length_eq_zero (by rw [List.length_nil] at h9; omega))
theorem PM.next (h : PM w W S g X xs ys) (hb : Below W.heap.size W W') : PM w W' S g X xs ys := h.goes (h.2.1.next hb) ⟨Upd.of_below hb, fun _ e => .inl e⟩
theorem PM.rnew (h : PM w W S g X xs ys) (hr : RNew W ys' (.slice X' ys'.length c) W') (ha : ∀ y ∈ ys', Ap W' S y.A (BB y.b)) : PM w W' S g X' xs ys' := by
  obtain ⟨X2, c2, e, ho, hb⟩ := hr
  injection e with e1 e2 e3
  subst e1 e3
  obtain ⟨h1, h2, h3, -⟩ := h
  exact ⟨h1.trans (hb.mono h1.size), h2.next hb, h3, ho.rd, fun _ a ha e => absurd (h2.2.1 _ e) (Nat.not_lt.2 (ho.lt a.block (by rw [ha]; rfl)).1), ha⟩
theorem PI.goes (h : PI w W S g ga X xs ys x) (hN : Nst W' S' g xs') (hG : Goes S W S' W') : PI w W' S' g ga X xs' ys x :=
  ⟨h.1.goes hN hG, h.2.1.upd hG.1 h.2.2, fun e => (hG.2 ga e).elim h.2.2 fun h9 => absurd h.2.1.lt (Nat.not_lt.2 h9)⟩
theorem PI.next (h : PI w W S g ga X xs ys x) (hb : Below W.heap.size W W') : PI w W' S g ga X xs ys x := ⟨h.1.next hb, h.2.1.next hb, h.2.2⟩
theorem PI.drewN (h : PI w W S g ga X xs ys x) (q : Nat) : PI w (W.drewN q) S g ga X xs ys x := h.next (below_draw _ W q)
theorem PI.rnew (h : PI w W S g ga X xs ys x) (hr : RNew W ys' (.slice X' ys'.length c) W') (ha : ∀ y ∈ ys', Ap W' S y.A (BB y.b)) : PI w W' S g ga X' xs ys' x := by
  have hb : Below W.heap.size W W' := by obtain ⟨X2, c2, e, ho, hb⟩ := hr; exact hb
  exact ⟨h.1.rnew hr ha, h.2.1.next hb, h.2.2⟩
theorem PI.cell (h : PI w W S g ga X xs ys x) {j : Nat} {u : Value} (hj : x.cells[j]? = some u) : W.cell? ⟨ga, j, none⟩ = some u := h.2.1.cell hj
theorem PM.start (h : PM w W S g X xs ys) (x : ActM) : PI w (W.alloc (.cells x.cells.toArray 56)) S g W.heap.size X xs ys x :=
  ⟨h.next ((Below.refl _ _).alloc (Nat.le_refl _) _), Blk.new W _ _, fun e => absurd (h.2.1.2.1 _ e) (Nat.lt_irrefl _)⟩
theorem rnew_below {v : Value} (hr : RNew W ys' v W') : Below W.heap.size W W' := by obtain ⟨X2, c2, e, ho, hb⟩ := hr; exact hb
end
theorem ap_arg {w W : World} {S : Nat → Prop} {A : Option Addr} {xs : List Value} (h : Rd w w.heap.size A xs) (hb : Below w.heap.size w W) (hS : ∀ k, S k → w.heap.size ≤ k) : Ap W S A xs := by
  refine ⟨h.next hb, fun a ha hne e => ?_⟩
  obtain ⟨b, o, e1, hlt, _⟩ := h hne
  rw [ha] at e1
  obtain rfl := Option.some.inj e1
  exact absurd (hS _ e) (Nat.not_le.2 hlt)
theorem msg_len {xs ys : List OneM} (h : xs.map OneM.msg = ys.map OneM.msg) : xs.length = ys.length := by have := congrArg List.length h; simpa using this
theorem msg_at {xs ys : List OneM} (h : xs.map OneM.msg = ys.map OneM.msg) {i : Nat} {y : OneM} (hy : ys[i]? = some y) : ∃ x, xs[i]? = some x ∧ x.msg = y.msg := by
  have h1 : (xs.map OneM.msg)[i]? = some y.msg := by rw [h, List.getElem?_map, hy]; rfl
  rw [List.getElem?_map] at h1
  cases hx : xs[i]? with
  | none => rw [hx] at h1; cases h1
  | some x => rw [hx] at h1; exact ⟨x, rfl, Option.some.inj h1⟩
theorem map_erase {α β : Type} (f : α → β) (l : List α) (i : Nat) : (l.eraseIdx i).map f = (l.map f).eraseIdx i := by
  induction l generalizing i with
  | nil => rfl
  | cons a l ih => cases i with
    | zero => rfl
    | succ i => simp [ih]
theorem mem_erase {α : Type} {l : List α} {i : Nat} {a : α} (h : a ∈ l.eraseIdx i) : a ∈ l := List.mem_of_mem_eraseIdx h

set_option maxRecDepth 100000 in
set_option maxHeartbeats 16000000 in
theorem plays_law (A : Option Addr) (c : Nat) (ls : List ActM) (w : World) (hr : nactE.Rd w w.heap.size A ls) (hok : ∀ x ∈ ls, x.Ok w) (hsz : ls.length ≤ 9223372036854775807) :
    Calls Try.prog 4 #[.slice A ls.length c] w fun en w' => en = .returned (.bool true) ∧ Below w.heap.size w w' := by
  have CW := kept (fun W => nworks_any W)
  by_cases hbig : 60 < ls.length
  · clear hr hok
    generalize ls.length = N at *
    go_enter Try.func4, Try.ntmps4
    go_wp2_with fail
    refine (CW.out _).mono ?_
    rintro en w2 ⟨rfl, hb2⟩
    go_wp2
    go_ret
    exact ⟨rfl, hb2⟩
  have h60 : ls.length ≤ 60 := by omega
  clear hbig hsz
  have HR := kept hr
  have HOK := kept hok
  have CN := kept (new_any w)
  clear hr hok
  go_enter Try.func4, Try.ntmps4
  go_wp2_with fail
  refine CN.out.mono ?_
  rintro en w1 ⟨rfl, hN1, hb1⟩
  have HST : Kept (PM w w1 (fun k => k = w.heap.size) w.heap.size none [] []) := ⟨⟨hb1, hN1, (fun k hk => by omega), Elem.Rd.nil _, (fun h => absurd rfl h), (fun y hy => by cases hy)⟩⟩
  generalize hg : w.heap.size = g at HST ⊢
  have HG := kept hg
  clear hN1 hb1 CN hg
  go_wp2
  go_loopw [4, 5] (fun v i wr => ∃ (j : Nat) (S : Nat → Prop) (X : Option Addr) (cx : Nat) (xs ys : List OneM), j ≤ ls.length ∧ i = .int .i64 (j : Int) ∧ v = .slice X ys.length cx ∧ Kept (PM w wr S g X xs ys ∧ xs.map OneM.msg = ys.map OneM.msg)) (fun _ i _ => ls.length - (intOf i).toNat)
  case atStart => exact ⟨0, _, none, 0, [], [], Nat.zero_le _, rfl, rfl, ⟨HST.out, rfl⟩⟩
  case round =>
    obtain ⟨j, S, X, cx, xs, ys, hj, rfl, rfl, hin⟩ := hrel
    clear HST
    by_cases hlt : j < ls.length
    · obtain ⟨x, hx⟩ : ∃ x, ls[j]? = some x := ⟨_, List.getElem?_eq_getElem hlt⟩
      have hxo := HOK.out x (List.mem_of_getElem? hx)
      obtain ⟨xk, xt, xp, xm, xA, xb, xc⟩ := x
      obtain ⟨hPM, hms⟩ := hin.out
      obtain ⟨b, o, rfl, hbb, hcs⟩ := (HR.out.next hPM.1).at_ hx
      have c0 : wr.cell? ⟨b, o + j * 5, none⟩ = some (.int .u8 (xk : Int)) := hcs 0 _ rfl
      have c1 : wr.cell? ⟨b, o + j * 5 + 1, none⟩ = some (.int .i64 xt) := hcs 1 _ rfl
      have c2 : wr.cell? ⟨b, o + j * 5 + 2, none⟩ = some (.int .i64 xp) := hcs 2 _ rfl
      have c3 : wr.cell? ⟨b, o + j * 5 + 3, none⟩ = some (.int .u32 (xm : Int)) := hcs 3 _ rfl
      have c4 : wr.cell? ⟨b, o + j * 5 + 4, none⟩ = some (.slice xA xb.length xc) := hcs 4 _ rfl
      obtain ⟨hk0, ht0, hp0, hm0, hrd, hab, hle, hcc⟩ := hxo
      dsimp only at hk0 ht0 hp0 hm0 hrd hab hle hcc
      have HI : Kept (PI w (wr.alloc (.cells #[.int .u8 (xk : Int), .int .i64 xt, .int .i64 xp, .int .u32 (xm : Int), .slice xA xb.length xc] 56)) S g wr.heap.size X xs ys ⟨xk, xt, xp, xm, xA, xb, xc⟩) := ⟨hPM.start ⟨xk, xt, xp, xm, xA, xb, xc⟩⟩
      have HAB := kept hab
      have HRD := kept hrd
      have HMS := kept hms
      have hlen := msg_len hms
      have h512 := hPM.2.1.2.2.1
      have hjn : (j : Int) < (ls.length : Int) := by omega
      have HK : Kept (xk = 0 ∨ xk = 1 ∨ xk = 2 ∨ xk = 3 ∨ xk = 4 ∨ xk = 5 ∨ 5 < xk) := ⟨by omega⟩
      have hys5 : ys.length ≤ 512 := by omega
      have HLN := kept hlen
      clear hcs hx hrd hab hPM hms hin hlen
      by_cases h300 : 300 < xb.length
      · go_wp2_with fail
        refine (CW.out _).mono ?_
        rintro en w2 ⟨rfl, hb2⟩
        have HB2 := kept (HI.out.1.1.trans (hb2.mono HI.out.1.1.size))
        rw [HG.out] at HB2
        clear hb2
        go_wp2
        go_ret
        rw [← HG.out]
        exact ⟨rfl, by rw [HG.out]; exact HB2.out⟩
      have h300' : xb.length ≤ 300 := by omega
      clear h300
      by_cases hN0 : ys.length = 0
      · obtain rfl : ys = [] := List.eq_nil_of_length_eq_zero hN0
        obtain rfl : xs = [] := List.eq_nil_of_length_eq_zero (by have := HLN.out; simpa using this)
        have hNL : NLen (wr.alloc (.cells #[.int .u8 (xk : Int), .int .i64 xt, .int .i64 xp, .int .u32 (xm : Int), .slice xA xb.length xc] 56)) (.pointer (some ⟨g, 0, none⟩)) 0 := HI.out.1.2.1.len
        have CA := kept (fun W => rat_any X 0 cx xp W (by decide))
        rw [show atI 0 xp = -1 from rfl] at CA
        have CL := kept (look_no _ xp _ hNL)
        have CT := kept (take_no _ xp _ hNL)
        have CW3 := kept (rwithout_any X cx [] (-1) _ (by simp) HI.out.1.2.2.2.1 (by decide))
        have C2 := kept (twice_no _ xp _ hNL)
        have CR2 := kept (fun W => rtwice_no X cx xp W)
        have C5 := kept (spoil_no _ xp xt xm _ hNL)
        have CR5 := kept (fun W => rspoil_no X cx xp xt xm W)
        have CE := kept (equal36_any (wr.alloc (.cells #[.int .u8 (xk : Int), .int .i64 xt, .int .i64 xp, .int .u32 (xm : Int), .slice xA xb.length xc] 56)) 0 0 none none 0 0 0 0 [] [] rfl rfl (fun x hx => by cases hx) (fun x hx => by cases hx) Rd.nil Rd.nil)
        rw [decide_eq_true rfl] at CE
        clear hNL
        go_wp2_with fail
        refine (CA.out _).mono ?_
        rintro en w5 ⟨rfl, hw5⟩
        subst hw5
        go_wp2_with fail
        refine CL.out.mono ?_
        rintro en w5 ⟨rfl, hw5⟩
        subst hw5
        go_upto_block 2 with fail
        go_cut [4, 7, 8] (fun v e f wx => ∃ (S2 : Nat → Prop) (X2 : Option Addr) (d2 : Nat) (xs2 ys2 : List OneM) (r : Nat), v = .slice X2 ys2.length d2 ∧ e = .int .i64 (r : Int) ∧ f = .int .i64 (r : Int) ∧ Kept (PI w wx S2 g wr.heap.size X2 xs2 ys2 ⟨xk, xt, xp, xm, xA, xb, xc⟩ ∧ xs2.map OneM.msg = ys2.map OneM.msg))
        case first =>
          rcases HK.out with rfl | rfl | rfl | rfl | rfl | rfl | h5
          · as_aux_lemma =>
              have CS := kept (send_yes S g ([] : List OneM) xt xA xb.length xc xb _ HI.out.1.2.1 (by simp) rfl (HRD.out.next HI.out.1.1) ⟨HAB.out, (show xb.length ≤ 140737488351232 by omega), ht0⟩)
              go_wp2_with fail
              refine CS.out.mono ?_
              rintro en w6 ⟨rfl, S6, A6, c6, hN6, hG6⟩
              have HI6 := kept (HI.out.goes hN6 hG6)
              have CR := kept (rsend_yes X cx ([] : List OneM) xt xA xb xc w6 (by simp) HI6.out.1.2.2.2.1)
              have z1 : w6.cell? ⟨wr.heap.size, 1, none⟩ = some (.int .i64 xt) := HI6.out.cell rfl
              have z2 : w6.cell? ⟨wr.heap.size, 2, none⟩ = some (.int .i64 xp) := HI6.out.cell rfl
              have z3 : w6.cell? ⟨wr.heap.size, 3, none⟩ = some (.int .u32 (xm : Int)) := HI6.out.cell rfl
              have z4 : w6.cell? ⟨wr.heap.size, 4, none⟩ = some (.slice xA xb.length xc) := HI6.out.cell rfl
              have hzl := HI6.out.2.1.lt
              clear hN6 hG6 CS
              go_wp2_with fail
              refine CR.out.mono ?_
              rintro en w7 ⟨v, rfl, X7, c7, rfl, ho7, hb7⟩
              have HI7 := kept (HI6.out.rnew (X' := X7) (c := c7) ⟨X7, c7, rfl, ho7, hb7⟩ (fun y hy => by
                rcases List.mem_append.1 hy with h9 | h9
                · exact (HI6.out.1.2.2.2.2.2 y h9).next hb7
                · obtain rfl : y = _ := List.mem_singleton.1 h9
                  exact (ap_arg HRD.out HI6.out.1.1 HI6.out.1.2.2.1).next hb7))
              clear ho7 hb7 CR z1 z2 z3 z4 hzl
              go_wp2
              go_meet
              case rel => exact ⟨S6, X7, c7, _, _, 0, (by simp), rfl, rfl, ⟨HI7.out, rfl⟩⟩
          · as_aux_lemma =>
              have CS := kept (send_yes S g ([] : List OneM) xt xA xb.length xc xb _ HI.out.1.2.1 (by simp) rfl (HRD.out.next HI.out.1.1) ⟨HAB.out, (show xb.length ≤ 140737488351232 by omega), ht0⟩)
              go_wp2_with fail
              refine CS.out.mono ?_
              rintro en w6 ⟨rfl, S6, A6, c6, hN6, hG6⟩
              have HI6 := kept (HI.out.goes hN6 hG6)
              have CR := kept (rsend_yes X cx ([] : List OneM) xt xA xb xc w6 (by simp) HI6.out.1.2.2.2.1)
              have z1 : w6.cell? ⟨wr.heap.size, 1, none⟩ = some (.int .i64 xt) := HI6.out.cell rfl
              have z2 : w6.cell? ⟨wr.heap.size, 2, none⟩ = some (.int .i64 xp) := HI6.out.cell rfl
              have z3 : w6.cell? ⟨wr.heap.size, 3, none⟩ = some (.int .u32 (xm : Int)) := HI6.out.cell rfl
              have z4 : w6.cell? ⟨wr.heap.size, 4, none⟩ = some (.slice xA xb.length xc) := HI6.out.cell rfl
              have hzl := HI6.out.2.1.lt
              clear hN6 hG6 CS
              go_wp2_with fail
              refine CR.out.mono ?_
              rintro en w7 ⟨v, rfl, X7, c7, rfl, ho7, hb7⟩
              have HI7 := kept (HI6.out.rnew (X' := X7) (c := c7) ⟨X7, c7, rfl, ho7, hb7⟩ (fun y hy => by
                rcases List.mem_append.1 hy with h9 | h9
                · exact (HI6.out.1.2.2.2.2.2 y h9).next hb7
                · obtain rfl : y = _ := List.mem_singleton.1 h9
                  exact (ap_arg HRD.out HI6.out.1.1 HI6.out.1.2.2.1).next hb7))
              clear ho7 hb7 CR z1 z2 z3 z4 hzl
              go_wp2
              go_meet
              case rel => exact ⟨S6, X7, c7, _, _, 0, (by simp), rfl, rfl, ⟨HI7.out, rfl⟩⟩
          · as_aux_lemma =>
              have CS := kept (send_yes S g ([] : List OneM) xt xA xb.length xc xb _ HI.out.1.2.1 (by simp) rfl (HRD.out.next HI.out.1.1) ⟨HAB.out, (show xb.length ≤ 140737488351232 by omega), ht0⟩)
              go_wp2_with fail
              refine CS.out.mono ?_
              rintro en w6 ⟨rfl, S6, A6, c6, hN6, hG6⟩
              have HI6 := kept (HI.out.goes hN6 hG6)
              have CR := kept (rsend_yes X cx ([] : List OneM) xt xA xb xc w6 (by simp) HI6.out.1.2.2.2.1)
              have z1 : w6.cell? ⟨wr.heap.size, 1, none⟩ = some (.int .i64 xt) := HI6.out.cell rfl
              have z2 : w6.cell? ⟨wr.heap.size, 2, none⟩ = some (.int .i64 xp) := HI6.out.cell rfl
              have z3 : w6.cell? ⟨wr.heap.size, 3, none⟩ = some (.int .u32 (xm : Int)) := HI6.out.cell rfl
              have z4 : w6.cell? ⟨wr.heap.size, 4, none⟩ = some (.slice xA xb.length xc) := HI6.out.cell rfl
              have hzl := HI6.out.2.1.lt
              clear hN6 hG6 CS
              go_wp2_with fail
              refine CR.out.mono ?_
              rintro en w7 ⟨v, rfl, X7, c7, rfl, ho7, hb7⟩
              have HI7 := kept (HI6.out.rnew (X' := X7) (c := c7) ⟨X7, c7, rfl, ho7, hb7⟩ (fun y hy => by
                rcases List.mem_append.1 hy with h9 | h9
                · exact (HI6.out.1.2.2.2.2.2 y h9).next hb7
                · obtain rfl : y = _ := List.mem_singleton.1 h9
                  exact (ap_arg HRD.out HI6.out.1.1 HI6.out.1.2.2.1).next hb7))
              clear ho7 hb7 CR z1 z2 z3 z4 hzl
              go_wp2
              go_meet
              case rel => exact ⟨S6, X7, c7, _, _, 0, (by simp), rfl, rfl, ⟨HI7.out, rfl⟩⟩
          · as_aux_lemma =>
              go_wp2_with fail
              refine CT.out.mono ?_
              rintro en w6 ⟨rfl, hw6⟩
              subst hw6
              go_wp2_with fail
              refine CE.out.mono ?_
              rintro en w6 ⟨rfl, q, rfl⟩
              have CW4 := kept (rwithout_any X cx [] (-1) (World.drewN _ q) (by simp) (HI.out.drewN q).1.2.2.2.1 (by decide))
              go_wp2_with fail
              refine CW4.out.mono ?_
              rintro en w7 ⟨v, rfl, X7, c7, rfl, ho7, hb7⟩
              have HI7 := kept ((HI.out.drewN q).rnew (X' := X7) (c := c7) ⟨X7, c7, rfl, ho7, hb7⟩ (fun y hy => by cases hy))
              clear ho7 hb7
              go_wp2
              go_meet
              case rel => exact ⟨S, X7, c7, _, _, 0, rfl, rfl, rfl, ⟨HI7.out, rfl⟩⟩
          · as_aux_lemma =>
              go_wp2_with fail
              refine C2.out.mono ?_
              rintro en w6 ⟨rfl, hw6⟩
              subst hw6
              go_wp2_with fail
              refine (CR2.out _).mono ?_
              rintro en w7 ⟨rfl, hw7⟩
              subst hw7
              go_wp2
              go_meet
              case rel => exact ⟨S, X, cx, _, [], 6, rfl, rfl, rfl, ⟨HI.out, rfl⟩⟩
          · as_aux_lemma =>
              go_wp2_with fail
              refine C5.out.mono ?_
              rintro en w6 ⟨rfl, hw6⟩
              subst hw6
              go_wp2_with fail
              refine (CR5.out _).mono ?_
              rintro en w7 ⟨rfl, hw7⟩
              subst hw7
              go_wp2
              go_meet
              case rel => exact ⟨S, X, cx, _, [], 6, rfl, rfl, rfl, ⟨HI.out, rfl⟩⟩
          · as_aux_lemma =>
              have q0 : ((xk : Int) == 0) = false := by simp; omega
              have q1 : ((xk : Int) == 1) = false := by simp; omega
              have q2 : ((xk : Int) == 2) = false := by simp; omega
              have q3 : ((xk : Int) == 3) = false := by simp; omega
              have q4 : ((xk : Int) == 4) = false := by simp; omega
              have q5 : ((xk : Int) == 5) = false := by simp; omega
              go_wp2
              go_meet
              case rel => exact ⟨S, X, cx, _, _, 0, rfl, rfl, rfl, ⟨HI.out, rfl⟩⟩
        case rest =>
          obtain ⟨S2, X2, d2, xs2, ys2, r, rfl, rfl, rfl, hI⟩ := hcut
          have HI2 := kept hI.out.1
          have HM2 := kept hI.out.2
          have hl2 := msg_len hI.out.2
          have CN2 := len_any _ _ wc hI.out.1.1.2.1.len
          rw [hl2] at CN2
          have CN2 := kept CN2
          have hy2 : ys2.length ≤ 512 := by have := hI.out.1.1.2.1.2.2.1; omega
          clear hI hl2
          go_wp2_with fail
          refine CN2.out.mono ?_
          rintro en w9 ⟨rfl, hw9⟩
          subst hw9
          go_wp2
          go_roundw
          case rel => exact ⟨j + 1, S2, X2, d2, xs2, ys2, by omega, by go_num, rfl, ⟨HI2.out.1, HM2.out⟩⟩
          case measure => simp [intOf]; omega
      · obtain ⟨y, hy⟩ := at_some (xs := ys) xp (by omega)
        obtain ⟨i, hi, hil, hyi⟩ := rat_i hy
        obtain ⟨x, hxi, hmsg⟩ := msg_at HMS.out hyi
        obtain ⟨t1, A1, b1, d1, bad1⟩ := x
        obtain ⟨t2, A2, b2, d2, bad2⟩ := y
        unfold OneM.msg at hmsg
        dsimp only at hmsg
        injection hmsg with h1 h2 h3
        subst h1 h2 h3
        have hxp : xs[(atI xs.length xp).toNat]? = some ⟨t1, A1, b1, d1, bad1⟩ := by rw [HLN.out, hi, Int.toNat_natCast]; exact hxi
        have hxok : (⟨t1, b1, bad1⟩ : MsgM).Ok := by
          obtain ⟨_, _, _, X9, c9, _, _, _, h8⟩ := HI.out.1.2.1
          exact (h8 _ (List.mem_of_getElem? hxi)).1
        have hIX : atI xs.length xp = (i : Int) := by rw [HLN.out]; exact hi
        have CA := kept (fun W => rat_any X ys.length cx xp W hys5)
        rw [hi] at CA
        have CL := look_at S g xs xp ⟨t1, A1, b1, d1, bad1⟩ _ HI.out.1.2.1 hxp
        unfold LooksAt at CL
        dsimp only [OneM.msg] at CL
        have CL := kept CL
        obtain ⟨bx, ox, rfl, hbx, hcx⟩ := HI.out.1.2.2.2.1.at_ hyi
        have HROW : Kept (∀ W, Below (wr.alloc (.cells #[.int .u8 (xk : Int), .int .i64 xt, .int .i64 xp, .int .u32 (xm : Int), .slice xA xb.length xc] 56)).heap.size (wr.alloc (.cells #[.int .u8 (xk : Int), .int .i64 xt, .int .i64 xp, .int .u32 (xm : Int), .slice xA xb.length xc] 56)) W → W.cell? ⟨bx, ox + i * 3, none⟩ = some (.int .i64 t1) ∧ W.cell? ⟨bx, ox + i * 3 + 1, none⟩ = some (.slice A2 b1.length d2) ∧ bx < W.heap.size) := ⟨fun W hb => ⟨(hb.cell (p := ⟨bx, ox + i * 3, none⟩) hbx).trans (hcx 0 _ rfl), (hb.cell (p := ⟨bx, ox + i * 3 + 1, none⟩) hbx).trans (hcx 1 _ rfl), Nat.lt_of_lt_of_le hbx hb.size⟩⟩
        have hi2 : (i : Int) < (ys.length : Int) := by omega
        have hi3 : (0 : Int) ≤ (i : Int) := by omega
        have hi4 : (i : Int) ≤ 512 := by omega
        have HY := kept hy
        have HYI := kept hyi
        have HXP := kept hxp
        have HXI := kept hxi
        have HXO := kept hxok
        have HIX := kept hIX
        have HHI := kept hi
        have HYA := kept (HI.out.1.2.2.2.2.2 _ (List.mem_of_getElem? hyi))
        dsimp only at HYA
        have HYM := kept (List.mem_of_getElem? hyi)
        clear hcx hy hyi hxp hxi hxok hIX hi
        go_wp2_with fail
        refine (CA.out _).mono ?_
        rintro en w5 ⟨rfl, hw5⟩
        subst hw5
        go_wp2_with fail
        refine CL.out.mono ?_
        rintro en w5 ⟨A5, c5, rfl, ho5, hc5, hb5⟩
        have HI5 := kept (HI.out.next hb5)
        have HB5 := kept (Ap.new ho5 HI.out.1.2.1.2.1)
        have CE := equal36_any w5 _ _ A5 A2 b1.length b1.length c5 d2 b1 b1 rfl rfl HXO.out.1 HXO.out.1 ho5.rd (HYA.out.next hb5).1
        rw [decide_eq_true rfl] at CE
        have CE := kept CE
        obtain ⟨r0, r1, r2⟩ := HROW.out _ hb5
        have z0 : w5.cell? ⟨wr.heap.size, 0, none⟩ = some (.int .u8 (xk : Int)) := HI5.out.cell rfl
        have hzl := HI5.out.2.1.lt
        clear ho5 hb5 CL CA hbx HROW
        go_wp2_with fail
        refine CE.out.mono ?_
        rintro en w6 ⟨rfl, q, rfl⟩
        have HI6 := kept (HI5.out.drewN q)
        have HB6 : Kept (Ap (w5.drewN q) S A5 (BB b1)) := ⟨HB5.out.next (below_draw _ _ q)⟩
        clear HI5 HB5 CE r0 r1 r2
        go_upto_block 2 with fail
        go_cut [4, 7, 8] (fun v e f wx => ∃ (S2 : Nat → Prop) (X2 : Option Addr) (d2 : Nat) (xs2 ys2 : List OneM) (r : Nat), v = .slice X2 ys2.length d2 ∧ e = .int .i64 (r : Int) ∧ f = .int .i64 (r : Int) ∧ Kept (PI w wx S2 g wr.heap.size X2 xs2 ys2 ⟨xk, xt, xp, xm, xA, xb, xc⟩ ∧ xs2.map OneM.msg = ys2.map OneM.msg))
        case first =>
          rcases HK.out with rfl | rfl | rfl | rfl | rfl | rfl | h5
          · as_aux_lemma =>
              clear z0 hzl
              have z1 : (w5.drewN q).cell? ⟨wr.heap.size, 1, none⟩ = some (.int .i64 xt) := HI6.out.cell rfl
              have z2 : (w5.drewN q).cell? ⟨wr.heap.size, 2, none⟩ = some (.int .i64 xp) := HI6.out.cell rfl
              have z3 : (w5.drewN q).cell? ⟨wr.heap.size, 3, none⟩ = some (.int .u32 (xm : Int)) := HI6.out.cell rfl
              have z4 : (w5.drewN q).cell? ⟨wr.heap.size, 4, none⟩ = some (.slice xA xb.length xc) := HI6.out.cell rfl
              have hzl := HI6.out.2.1.lt
              generalize w5.drewN q = wq at *
              by_cases hfull : 512 ≤ ys.length
              · have CS := kept (send_full S g xs xt xA xb.length xc _ HI6.out.1.2.1 (by rw [msg_len HMS.out]; exact hfull))
                have CR := kept (fun W => rsend_full (some ⟨bx, ox, none⟩) ys.length cx xt xA xb.length xc W hfull (by omega))
                go_wp2_with fail
                refine CS.out.mono ?_
                rintro en w6 ⟨rfl, hw6⟩
                subst hw6
                go_wp2_with fail
                refine (CR.out _).mono ?_
                rintro en w7 ⟨rfl, hw7⟩
                subst hw7
                go_wp2
                go_meet
                case rel => exact ⟨S, some ⟨bx, ox, none⟩, cx, _, _, 8, rfl, rfl, rfl, ⟨HI6.out, HMS.out⟩⟩
              · have CS := kept (send_yes S g xs xt xA xb.length xc xb _ HI6.out.1.2.1 (by rw [msg_len HMS.out]; omega) rfl (HRD.out.next HI6.out.1.1) ⟨HAB.out, (show xb.length ≤ 140737488351232 by omega), ht0⟩)
                go_wp2_with fail
                refine CS.out.mono ?_
                rintro en w6 ⟨rfl, S6, A6, c6, hN6, hG6⟩
                have HI6 := kept (HI6.out.goes hN6 hG6)
                have CR := kept (rsend_yes (some ⟨bx, ox, none⟩) cx ys xt xA xb xc w6 (by omega) HI6.out.1.2.2.2.1)
                have z1 : w6.cell? ⟨wr.heap.size, 1, none⟩ = some (.int .i64 xt) := HI6.out.cell rfl
                have z2 : w6.cell? ⟨wr.heap.size, 2, none⟩ = some (.int .i64 xp) := HI6.out.cell rfl
                have z3 : w6.cell? ⟨wr.heap.size, 3, none⟩ = some (.int .u32 (xm : Int)) := HI6.out.cell rfl
                have z4 : w6.cell? ⟨wr.heap.size, 4, none⟩ = some (.slice xA xb.length xc) := HI6.out.cell rfl
                have hzl := HI6.out.2.1.lt
                clear hN6 hG6 CS
                go_wp2_with fail
                refine CR.out.mono ?_
                rintro en w7 ⟨v, rfl, X7, c7, rfl, ho7, hb7⟩
                have HI7 := kept (HI6.out.rnew (X' := X7) (c := c7) ⟨X7, c7, rfl, ho7, hb7⟩ (fun y hy => by
                  rcases List.mem_append.1 hy with h9 | h9
                  · exact (HI6.out.1.2.2.2.2.2 y h9).next hb7
                  · obtain rfl : y = _ := List.mem_singleton.1 h9
                    exact (ap_arg HRD.out HI6.out.1.1 HI6.out.1.2.2.1).next hb7))
                clear ho7 hb7 CR z1 z2 z3 z4 hzl
                go_wp2
                go_meet
                case rel => exact ⟨S6, X7, c7, _, _, 0, (by simp), rfl, rfl, ⟨HI7.out, by rw [List.map_append, List.map_append, HMS.out]; rfl⟩⟩
          · as_aux_lemma =>
              clear z0 hzl
              have z1 : (w5.drewN q).cell? ⟨wr.heap.size, 1, none⟩ = some (.int .i64 xt) := HI6.out.cell rfl
              have z2 : (w5.drewN q).cell? ⟨wr.heap.size, 2, none⟩ = some (.int .i64 xp) := HI6.out.cell rfl
              have z3 : (w5.drewN q).cell? ⟨wr.heap.size, 3, none⟩ = some (.int .u32 (xm : Int)) := HI6.out.cell rfl
              have z4 : (w5.drewN q).cell? ⟨wr.heap.size, 4, none⟩ = some (.slice xA xb.length xc) := HI6.out.cell rfl
              have hzl := HI6.out.2.1.lt
              generalize w5.drewN q = wq at *
              by_cases hfull : 512 ≤ ys.length
              · have CS := kept (send_full S g xs xt xA xb.length xc _ HI6.out.1.2.1 (by rw [msg_len HMS.out]; exact hfull))
                have CR := kept (fun W => rsend_full (some ⟨bx, ox, none⟩) ys.length cx xt xA xb.length xc W hfull (by omega))
                go_wp2_with fail
                refine CS.out.mono ?_
                rintro en w6 ⟨rfl, hw6⟩
                subst hw6
                go_wp2_with fail
                refine (CR.out _).mono ?_
                rintro en w7 ⟨rfl, hw7⟩
                subst hw7
                go_wp2
                go_meet
                case rel => exact ⟨S, some ⟨bx, ox, none⟩, cx, _, _, 8, rfl, rfl, rfl, ⟨HI6.out, HMS.out⟩⟩
              · have CS := kept (send_yes S g xs xt xA xb.length xc xb _ HI6.out.1.2.1 (by rw [msg_len HMS.out]; omega) rfl (HRD.out.next HI6.out.1.1) ⟨HAB.out, (show xb.length ≤ 140737488351232 by omega), ht0⟩)
                go_wp2_with fail
                refine CS.out.mono ?_
                rintro en w6 ⟨rfl, S6, A6, c6, hN6, hG6⟩
                have HI6 := kept (HI6.out.goes hN6 hG6)
                have CR := kept (rsend_yes (some ⟨bx, ox, none⟩) cx ys xt xA xb xc w6 (by omega) HI6.out.1.2.2.2.1)
                have z1 : w6.cell? ⟨wr.heap.size, 1, none⟩ = some (.int .i64 xt) := HI6.out.cell rfl
                have z2 : w6.cell? ⟨wr.heap.size, 2, none⟩ = some (.int .i64 xp) := HI6.out.cell rfl
                have z3 : w6.cell? ⟨wr.heap.size, 3, none⟩ = some (.int .u32 (xm : Int)) := HI6.out.cell rfl
                have z4 : w6.cell? ⟨wr.heap.size, 4, none⟩ = some (.slice xA xb.length xc) := HI6.out.cell rfl
                have hzl := HI6.out.2.1.lt
                clear hN6 hG6 CS
                go_wp2_with fail
                refine CR.out.mono ?_
                rintro en w7 ⟨v, rfl, X7, c7, rfl, ho7, hb7⟩
                have HI7 := kept (HI6.out.rnew (X' := X7) (c := c7) ⟨X7, c7, rfl, ho7, hb7⟩ (fun y hy => by
                  rcases List.mem_append.1 hy with h9 | h9
                  · exact (HI6.out.1.2.2.2.2.2 y h9).next hb7
                  · obtain rfl : y = _ := List.mem_singleton.1 h9
                    exact (ap_arg HRD.out HI6.out.1.1 HI6.out.1.2.2.1).next hb7))
                clear ho7 hb7 CR z1 z2 z3 z4 hzl
                go_wp2
                go_meet
                case rel => exact ⟨S6, X7, c7, _, _, 0, (by simp), rfl, rfl, ⟨HI7.out, by rw [List.map_append, List.map_append, HMS.out]; rfl⟩⟩
          · as_aux_lemma =>
              clear z0 hzl
              have z1 : (w5.drewN q).cell? ⟨wr.heap.size, 1, none⟩ = some (.int .i64 xt) := HI6.out.cell rfl
              have z2 : (w5.drewN q).cell? ⟨wr.heap.size, 2, none⟩ = some (.int .i64 xp) := HI6.out.cell rfl
              have z3 : (w5.drewN q).cell? ⟨wr.heap.size, 3, none⟩ = some (.int .u32 (xm : Int)) := HI6.out.cell rfl
              have z4 : (w5.drewN q).cell? ⟨wr.heap.size, 4, none⟩ = some (.slice xA xb.length xc) := HI6.out.cell rfl
              have hzl := HI6.out.2.1.lt
              generalize w5.drewN q = wq at *
              by_cases hfull : 512 ≤ ys.length
              · have CS := kept (send_full S g xs xt xA xb.length xc _ HI6.out.1.2.1 (by rw [msg_len HMS.out]; exact hfull))
                have CR := kept (fun W => rsend_full (some ⟨bx, ox, none⟩) ys.length cx xt xA xb.length xc W hfull (by omega))
                go_wp2_with fail
                refine CS.out.mono ?_
                rintro en w6 ⟨rfl, hw6⟩
                subst hw6
                go_wp2_with fail
                refine (CR.out _).mono ?_
                rintro en w7 ⟨rfl, hw7⟩
                subst hw7
                go_wp2
                go_meet
                case rel => exact ⟨S, some ⟨bx, ox, none⟩, cx, _, _, 8, rfl, rfl, rfl, ⟨HI6.out, HMS.out⟩⟩
              · have CS := kept (send_yes S g xs xt xA xb.length xc xb _ HI6.out.1.2.1 (by rw [msg_len HMS.out]; omega) rfl (HRD.out.next HI6.out.1.1) ⟨HAB.out, (show xb.length ≤ 140737488351232 by omega), ht0⟩)
                go_wp2_with fail
                refine CS.out.mono ?_
                rintro en w6 ⟨rfl, S6, A6, c6, hN6, hG6⟩
                have HI6 := kept (HI6.out.goes hN6 hG6)
                have CR := kept (rsend_yes (some ⟨bx, ox, none⟩) cx ys xt xA xb xc w6 (by omega) HI6.out.1.2.2.2.1)
                have z1 : w6.cell? ⟨wr.heap.size, 1, none⟩ = some (.int .i64 xt) := HI6.out.cell rfl
                have z2 : w6.cell? ⟨wr.heap.size, 2, none⟩ = some (.int .i64 xp) := HI6.out.cell rfl
                have z3 : w6.cell? ⟨wr.heap.size, 3, none⟩ = some (.int .u32 (xm : Int)) := HI6.out.cell rfl
                have z4 : w6.cell? ⟨wr.heap.size, 4, none⟩ = some (.slice xA xb.length xc) := HI6.out.cell rfl
                have hzl := HI6.out.2.1.lt
                clear hN6 hG6 CS
                go_wp2_with fail
                refine CR.out.mono ?_
                rintro en w7 ⟨v, rfl, X7, c7, rfl, ho7, hb7⟩
                have HI7 := kept (HI6.out.rnew (X' := X7) (c := c7) ⟨X7, c7, rfl, ho7, hb7⟩ (fun y hy => by
                  rcases List.mem_append.1 hy with h9 | h9
                  · exact (HI6.out.1.2.2.2.2.2 y h9).next hb7
                  · obtain rfl : y = _ := List.mem_singleton.1 h9
                    exact (ap_arg HRD.out HI6.out.1.1 HI6.out.1.2.2.1).next hb7))
                clear ho7 hb7 CR z1 z2 z3 z4 hzl
                go_wp2
                go_meet
                case rel => exact ⟨S6, X7, c7, _, _, 0, (by simp), rfl, rfl, ⟨HI7.out, by rw [List.map_append, List.map_append, HMS.out]; rfl⟩⟩
          · as_aux_lemma =>
              clear z0 hzl
              have z1 : (w5.drewN q).cell? ⟨wr.heap.size, 1, none⟩ = some (.int .i64 xt) := HI6.out.cell rfl
              have z2 : (w5.drewN q).cell? ⟨wr.heap.size, 2, none⟩ = some (.int .i64 xp) := HI6.out.cell rfl
              have z3 : (w5.drewN q).cell? ⟨wr.heap.size, 3, none⟩ = some (.int .u32 (xm : Int)) := HI6.out.cell rfl
              have z4 : (w5.drewN q).cell? ⟨wr.heap.size, 4, none⟩ = some (.slice xA xb.length xc) := HI6.out.cell rfl
              have hzl := HI6.out.2.1.lt
              generalize w5.drewN q = wq at *
              have CT := take_at S g xs xp ⟨t1, A1, b1, d1, bad1⟩ wq HI6.out.1.2.1 HXP.out
              unfold TakesAt at CT
              dsimp only [OneM.msg] at CT
              have CT := kept CT
              go_wp2_with fail
              refine CT.out.mono ?_
              rintro en w7 ⟨A7, c7, rfl, ho7, hc7, hN7, hU7⟩
              have HI7 := kept (HI6.out.goes hN7 ⟨hU7, fun _ e => .inl e⟩)
              have HB7 := kept (HB6.out.goes ⟨hU7, fun _ e => .inl e⟩)
              have CE2 := equal36_any w7 _ _ A7 A5 b1.length b1.length c7 c5 b1 b1 rfl rfl HXO.out.1 HXO.out.1 ho7.rd HB7.out.1
              rw [decide_eq_true rfl] at CE2
              have CE2 := kept CE2
              clear ho7 hN7 hU7 CT z1 z2 z3 z4 hzl
              go_wp2_with fail
              refine CE2.out.mono ?_
              rintro en w8 ⟨rfl, q2, rfl⟩
              have HI8 := kept (HI7.out.drewN q2)
              have CW4 := kept (rwithout_any (some ⟨bx, ox, none⟩) cx ys (i : Int) (w7.drewN q2) hys5 HI8.out.1.2.2.2.1 (by omega))
              clear CE2
              go_wp2_with fail
              refine CW4.out.mono ?_
              rintro en w9 ⟨v, rfl, X9, c9, rfl, ho9, hb9⟩
              have HI9 := kept (HI8.out.rnew (X' := X9) (c := c9) ⟨X9, c9, rfl, ho9, hb9⟩ (fun y hy => by
                unfold withoutM at hy
                rw [if_pos hi3] at hy
                exact (HI8.out.1.2.2.2.2.2 y (mem_erase hy)).next hb9))
              clear ho9 hb9 CW4
              go_wp2
              go_meet
              case rel => exact ⟨S, X9, c9, _, _, 0, (by first | rfl | simp), rfl, rfl, ⟨HI9.out, by unfold withoutM; rw [if_pos hi3, HIX.out, map_erase, map_erase, HMS.out]⟩⟩
          · as_aux_lemma =>
              clear z0 hzl
              have z1 : (w5.drewN q).cell? ⟨wr.heap.size, 1, none⟩ = some (.int .i64 xt) := HI6.out.cell rfl
              have z2 : (w5.drewN q).cell? ⟨wr.heap.size, 2, none⟩ = some (.int .i64 xp) := HI6.out.cell rfl
              have z3 : (w5.drewN q).cell? ⟨wr.heap.size, 3, none⟩ = some (.int .u32 (xm : Int)) := HI6.out.cell rfl
              have z4 : (w5.drewN q).cell? ⟨wr.heap.size, 4, none⟩ = some (.slice xA xb.length xc) := HI6.out.cell rfl
              have hzl := HI6.out.2.1.lt
              generalize w5.drewN q = wq at *
              have CT := twice_at S g xs xp ⟨t1, A1, b1, d1, bad1⟩ wq HI6.out.1.2.1 HXP.out
              rw [HLN.out] at CT
              by_cases hfull : 512 ≤ ys.length
              · rw [if_pos hfull] at CT
                simp only [if_pos hfull] at CT
                have CT := kept CT
                go_wp2_with fail
                refine CT.out.mono ?_
                rintro en w7 ⟨rfl, S7, A7, c7, hN7, hG7⟩
                have HI7 := kept (HI6.out.goes hN7 hG7)
                have CR := kept (rtwice_full (some ⟨bx, ox, none⟩) cx ys xp _ w7 (by omega) HI7.out.1.2.2.2.1 HY.out)
                have z2 : w7.cell? ⟨wr.heap.size, 2, none⟩ = some (.int .i64 xp) := HI7.out.cell rfl
                have hzl := HI7.out.2.1.lt
                clear hN7 hG7 CT
                go_wp2_with fail
                refine CR.out.mono ?_
                rintro en w8 ⟨rfl, hb8⟩
                have HI8 := kept (HI7.out.next hb8)
                clear hb8 CR z2 hzl
                go_wp2
                go_meet
                case rel => exact ⟨S7, some ⟨bx, ox, none⟩, cx, _, _, 8, rfl, rfl, rfl, ⟨HI8.out, HMS.out⟩⟩
              · rw [if_neg hfull] at CT
                simp only [if_neg hfull] at CT
                have CT := kept CT
                go_wp2_with fail
                refine CT.out.mono ?_
                rintro en w7 ⟨rfl, S7, A7, c7, hN7, hG7⟩
                have HI7 := kept (HI6.out.goes hN7 hG7)
                have CR := kept (rtwice_yes (some ⟨bx, ox, none⟩) cx ys xp _ w7 (by omega) HI7.out.1.2.2.2.1 HY.out)
                have z2 : w7.cell? ⟨wr.heap.size, 2, none⟩ = some (.int .i64 xp) := HI7.out.cell rfl
                have hzl := HI7.out.2.1.lt
                clear hN7 hG7 CT
                go_wp2_with fail
                refine CR.out.mono ?_
                rintro en w8 ⟨v, rfl, X8, c8, rfl, ho8, hb8⟩
                have HI8 := kept (HI7.out.rnew (X' := X8) (c := c8) ⟨X8, c8, rfl, ho8, hb8⟩ (fun y hy => by
                  rcases List.mem_append.1 hy with h9 | h9
                  · exact (HI7.out.1.2.2.2.2.2 y h9).next hb8
                  · obtain rfl : y = _ := List.mem_singleton.1 h9
                    exact (HI7.out.1.2.2.2.2.2 _ HYM.out).next hb8))
                clear ho8 hb8 CR z2 hzl
                go_wp2
                go_meet
                case rel => exact ⟨S7, X8, c8, _, _, 0, (by simp), rfl, rfl, ⟨HI8.out, by rw [List.map_append, List.map_append, HMS.out]; rfl⟩⟩
          · as_aux_lemma =>
              clear z0 hzl
              have z1 : (w5.drewN q).cell? ⟨wr.heap.size, 1, none⟩ = some (.int .i64 xt) := HI6.out.cell rfl
              have z2 : (w5.drewN q).cell? ⟨wr.heap.size, 2, none⟩ = some (.int .i64 xp) := HI6.out.cell rfl
              have z3 : (w5.drewN q).cell? ⟨wr.heap.size, 3, none⟩ = some (.int .u32 (xm : Int)) := HI6.out.cell rfl
              have z4 : (w5.drewN q).cell? ⟨wr.heap.size, 4, none⟩ = some (.slice xA xb.length xc) := HI6.out.cell rfl
              have hzl := HI6.out.2.1.lt
              generalize w5.drewN q = wq at *
              cases bad1 with
              | true =>
                have CT := kept (spoil_bad S g xs xp xt xm _ wq HI6.out.1.2.1 HXP.out rfl)
                have CR := kept (rspoil_bad (some ⟨bx, ox, none⟩) cx ys xp xt xm _ wq hys5 HI6.out.1.2.2.2.1 HY.out rfl)
                go_wp2_with fail
                refine CT.out.mono ?_
                rintro en w7 ⟨rfl, hw7⟩
                subst hw7
                go_wp2_with fail
                refine CR.out.mono ?_
                rintro en w8 ⟨rfl, hw8⟩
                subst hw8
                go_wp2
                go_meet
                case rel => exact ⟨S, some ⟨bx, ox, none⟩, cx, _, _, 7, rfl, rfl, rfl, ⟨HI6.out, HMS.out⟩⟩
              | false =>
                have CT := kept (spoil_at S g xs xp xt xm _ wq HI6.out.1.2.1 hm0 HXP.out rfl)
                go_wp2_with fail
                refine CT.out.mono ?_
                rintro en w7 ⟨rfl, S7, A7, c7, hN7, hG7⟩
                have HI7 := kept (HI6.out.goes hN7 hG7)
                have HYA7 := HI7.out.1.2.2.2.2.2 _ HYM.out
                have CR := kept (rspoil_at (some ⟨bx, ox, none⟩) cx ys xp xt xm _ w7 hys5 HI7.out.1.2.2.2.1 HY.out rfl HYA7.1 HXO.out hm0)
                have z1 : w7.cell? ⟨wr.heap.size, 1, none⟩ = some (.int .i64 xt) := HI7.out.cell rfl
                have z2 : w7.cell? ⟨wr.heap.size, 2, none⟩ = some (.int .i64 xp) := HI7.out.cell rfl
                have z3 : w7.cell? ⟨wr.heap.size, 3, none⟩ = some (.int .u32 (xm : Int)) := HI7.out.cell rfl
                have z4 : w7.cell? ⟨wr.heap.size, 4, none⟩ = some (.slice xA xb.length xc) := HI7.out.cell rfl
                have hzl := HI7.out.2.1.lt
                clear hN7 hG7 CT HYA7
                go_wp2_with fail
                refine CR.out.mono ?_
                rintro en w8 ⟨v, A8, d8, rfl, ⟨X8, c8, rfl, ho8, hb8⟩, hrd8, hfr8⟩
                have HI8 := kept (HI7.out.rnew (X' := X8) (c := c8) ⟨X8, c8, rfl, ho8, hb8⟩ (fun y hy => by
                  rcases List.mem_or_eq_of_mem_set hy with h9 | rfl
                  · exact (HI7.out.1.2.2.2.2.2 y h9).next hb8
                  · exact ⟨hrd8, fun a ha _ e => absurd (HI7.out.1.2.1.2.1 _ e) (Nat.not_lt.2 (hfr8 a ha))⟩))
                clear ho8 hb8 CR z1 z2 z3 z4 hzl hrd8 hfr8
                go_wp2
                go_meet
                case rel => exact ⟨S7, X8, c8, _, _, 0, (by simp), rfl, rfl, ⟨HI8.out, by rw [HIX.out, HHI.out, List.map_set, List.map_set, HMS.out]; rfl⟩⟩
          · as_aux_lemma =>
              have q0 : ((xk : Int) == 0) = false := by simp; omega
              have q1 : ((xk : Int) == 1) = false := by simp; omega
              have q2 : ((xk : Int) == 2) = false := by simp; omega
              have q3 : ((xk : Int) == 3) = false := by simp; omega
              have q4 : ((xk : Int) == 4) = false := by simp; omega
              have q5 : ((xk : Int) == 5) = false := by simp; omega
              go_wp2
              go_meet
              case rel => exact ⟨S, some ⟨bx, ox, none⟩, cx, _, _, 0, rfl, rfl, rfl, ⟨HI6.out, HMS.out⟩⟩
        case rest =>
          obtain ⟨S2, X2, d2, xs2, ys2, r, rfl, rfl, rfl, hI⟩ := hcut
          have HI2 := kept hI.out.1
          have HM2 := kept hI.out.2
          have hl2 := msg_len hI.out.2
          have CN2 := len_any _ _ wc hI.out.1.1.2.1.len
          rw [hl2] at CN2
          have CN2 := kept CN2
          have hy2 : ys2.length ≤ 512 := by have := hI.out.1.1.2.1.2.2.1; omega
          clear hI hl2
          go_wp2_with fail
          refine CN2.out.mono ?_
          rintro en w9 ⟨rfl, hw9⟩
          subst hw9
          go_wp2
          go_roundw
          case rel => exact ⟨j + 1, S2, X2, d2, xs2, ys2, by omega, by go_num, rfl, ⟨HI2.out.1, HM2.out⟩⟩
          case measure => simp [intOf]; omega
    · obtain ⟨hPM, hms⟩ := hin.out
      have HMS := kept hms
      have HP0 := kept hPM
      have hlen := msg_len hms
      have HLN := kept hlen
      have hys5 : ys.length ≤ 512 := by have := hPM.2.1.2.2.1; omega
      clear hin hPM hms hlen
      go_wp2
      go_loopw [16] (fun i wr => ∃ k : Nat, k ≤ ys.length ∧ i = .int .i64 (k : Int) ∧ Kept (PM w wr S g X xs ys)) (fun i _ => ys.length - (intOf i).toNat)
      case atStart => exact ⟨0, Nat.zero_le _, rfl, HP0⟩
      case round =>
        obtain ⟨k, hk, rfl, hin⟩ := hrel
        clear HP0
        by_cases hkl : k < ys.length
        · obtain ⟨y, hyi⟩ : ∃ y, ys[k]? = some y := ⟨_, List.getElem?_eq_getElem hkl⟩
          obtain ⟨x, hxi, hmsg⟩ := msg_at HMS.out hyi
          obtain ⟨t1, A1, b1, d1, bad1⟩ := x
          obtain ⟨t2, A2, b2, d2, bad2⟩ := y
          unfold OneM.msg at hmsg
          dsimp only at hmsg
          injection hmsg with h1 h2 h3
          subst h1 h2 h3
          have hat : (atI xs.length (k : Int)).toNat = k := by
            unfold atI
            rw [if_neg (by rw [HLN.out]; omega), Int.emod_eq_of_lt (by omega) (by rw [HLN.out]; omega), Int.toNat_natCast]
          have hxok : (⟨t1, b1, bad1⟩ : MsgM).Ok := by
            obtain ⟨_, _, _, X9, c9, _, _, _, h8⟩ := hin.out.2.1
            exact (h8 _ (List.mem_of_getElem? hxi)).1
          have CL := look_at S g xs (k : Int) ⟨t1, A1, b1, d1, bad1⟩ _ hin.out.2.1 (by rw [hat]; exact hxi)
          unfold LooksAt at CL
          dsimp only [OneM.msg] at CL
          have CL := kept CL
          obtain ⟨bx, ox, rfl, hbx, hcx⟩ := hin.out.2.2.2.1.at_ hyi
          have HROW : Kept (∀ W, Below wr.heap.size wr W → W.cell? ⟨bx, ox + k * 3, none⟩ = some (.int .i64 t1) ∧ W.cell? ⟨bx, ox + k * 3 + 1, none⟩ = some (.slice A2 b1.length d2) ∧ bx < W.heap.size) := ⟨fun W hb => ⟨(hb.cell (p := ⟨bx, ox + k * 3, none⟩) hbx).trans (hcx 0 _ rfl), (hb.cell (p := ⟨bx, ox + k * 3 + 1, none⟩) hbx).trans (hcx 1 _ rfl), Nat.lt_of_lt_of_le hbx hb.size⟩⟩
          have HYA := kept (hin.out.2.2.2.2.2 _ (List.mem_of_getElem? hyi))
          dsimp only at HYA
          have HXO := kept hxok
          have hkn : (k : Int) < (ys.length : Int) := by omega
          have hk0 : (0 : Int) ≤ (k : Int) := by omega
          clear hcx hyi hxi hxok hat hbx
          go_wp2_with fail
          refine CL.out.mono ?_
          rintro en w5 ⟨A5, c5, rfl, ho5, hc5, hb5⟩
          have HP5 := kept (hin.out.next hb5)
          have CE := equal36_any w5 _ _ A5 A2 b1.length b1.length c5 d2 b1 b1 rfl rfl HXO.out.1 HXO.out.1 ho5.rd (HYA.out.next hb5).1
          rw [decide_eq_true rfl] at CE
          have CE := kept CE
          obtain ⟨r0, r1, r2⟩ := HROW.out _ hb5
          clear ho5 hb5 CL HROW
          go_wp2_with fail
          refine CE.out.mono ?_
          rintro en w6 ⟨rfl, q, rfl⟩
          have HP6 := kept (HP5.out.next (below_draw _ _ q))
          clear CE r0 r1 r2
          go_wp2
          go_roundw
          case rel => exact ⟨k + 1, by omega, by go_num, HP6⟩
          case measure => simp [intOf]; omega
        · have CN2 := len_any _ _ wr hin.out.2.1.len
          rw [HLN.out] at CN2
          have CN2 := kept CN2
          go_wp2_with fail
          refine CN2.out.mono ?_
          rintro en w9 ⟨rfl, hw9⟩
          subst hw9
          go_wp2_with fail
          refine (CW.out _).mono ?_
          rintro en w2 ⟨rfl, hb2⟩
          have HB2 := kept (hin.out.1.trans (hb2.mono hin.out.1.size))
          rw [HG.out] at HB2
          clear hb2
          go_wp2
          go_ret
          rw [← HG.out]
          exact ⟨rfl, by rw [HG.out]; exact HB2.out⟩
end Go.Proofs.Ytpckfnafcmifpaa.Net
