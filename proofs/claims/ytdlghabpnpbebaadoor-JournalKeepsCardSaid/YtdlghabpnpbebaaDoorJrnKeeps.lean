/- Layer 24 (journal): the law JournalKeeps. -/
import Derived.Test.YtdlghabpnpbebaaDoorJrnGo
import Derived.Test.YtdlghabpnpbebaaDoorParts
import Derived.Deep.RegionHeld3
import Derived.Deep.DeepCutAuto
import Derived.Deep.CutBlock
namespace Go.Proofs.YtdlghabpnpbebaaDoor.Jrn
open Go.RowKit Go.Proofs.YtdlghabpnpbebaaDoor.Mem Go.Proofs.YtdlghabpnpbebaaDoor.Num Go.Proofs.YtdlghabpnpbebaaDoor.Wal Go.Proofs.YtdlghabpnpbebaaDoor.Disk Go.Proofs.YtdlghabpnpbebaaDoor.Crc

/-- a caller's bytes -/
def CB (w0 : World) (A : Option Addr) (l : List Nat) : Prop := Rd w0 w0.heap.size A (BB l) ∧ AllB l ∧ l.length ≤ 300
theorem CB.nil (w0 : World) : CB w0 none [] := ⟨Rd.nil, (fun x hx => by cases hx), by simp⟩
/-- a row of a caller's bytes, apart from the ground S -/
def RowAt (w0 w : World) (S : Nat → Prop) (X : Option Addr) (ps : List Part) : Prop :=
  Rd w w.heap.size X (ps.map Part.val) ∧ (∀ x, X = some x → ps.map Part.val ≠ [] → ¬ S x.block) ∧ ∀ p ∈ ps, CB w0 p.A p.l
theorem RowAt.nil (w0 w : World) (S : Nat → Prop) : RowAt w0 w S none [] := ⟨Rd.nil, (fun x hx => by cases hx), fun p hp => by cases hp⟩
theorem RowAt.goes {w0 w w' : World} {S S' : Nat → Prop} {X : Option Addr} {ps : List Part} (h : RowAt w0 w S X ps) (hG : Goes S w S' w') : RowAt w0 w' S' X ps := by
  obtain ⟨h1, h2, h3⟩ := h
  exact ⟨(h1.updN hG.1 (Nat.le_refl _) h2).more hG.1.size, fun x hx hn hs => (hG.2 _ hs).elim (h2 x hx hn) (fun h5 => by have := rd_lt h1 hx hn; omega), h3⟩
theorem RowAt.next {w0 w w' : World} {S : Nat → Prop} {X : Option Addr} {ps : List Part} (h : RowAt w0 w S X ps) (hb : Below w.heap.size w w') : RowAt w0 w' S X ps := h.goes (goes_below hb)
theorem RowAt.parts {w0 w : World} {S : Nat → Prop} {X : Option Addr} {ps : List Part} (h : RowAt w0 w S X ps) (hb : Below w0.heap.size w0 w) : RdParts w w.heap.size X ps :=
  ⟨h.1, fun p hp => ⟨(h.2.2 p hp).1.next hb, (h.2.2 p hp).2.1, by have := (h.2.2 p hp).2.2; omega⟩⟩
/-- a journal that may go down -/
def Going (js : JS) (j : Nat) (s : List Nat) (r : List (List Nat)) : Prop := Good js s r ∧ js.d.room = 1048576 ∧ js.gen ≤ j + 1 ∧ (JB js.gen s r).length ≤ 400 + 400 * j
theorem going_len {js : JS} {j : Nat} {s : List Nat} {r : List (List Nat)} (h : Going js j s r) (hj : j ≤ 30) (keep : Int) (t : Bool) : Told (js.d.crashM keep t) s r :=
  good_crash h.1 (by have := h.2.2.2; omega) keep t
theorem going_add {js : JS} {j : Nat} {s : List Nat} {r : List (List Nat)} (h : Going js j s r) (hj : j ≤ 30) {a : List Nat} (ha : a.length ≤ 300) :
    ((addM js a).2 = 0 ∧ Going (addM js a).1 (j + 1) s (r ++ [a])) ∨ ((addM js a).2 = 14 ∧ Left (addM js a).1.d s r s (r ++ [a])) := by
  obtain ⟨h1, h3, h4, h5⟩ := h
  have hl := recB_le a
  have hS := add_steps h1 a (by omega) (by omega)
  rcases hS.way with ⟨e, g, n⟩ | h
  · left
    refine ⟨e, g, hS.room.trans h3, by omega, ?_⟩
    rw [jb_snoc, List.length_append, n]
    omega
  · exact .inr h
theorem going_ck {js : JS} {j : Nat} {s : List Nat} {r : List (List Nat)} (h : Going js j s r) (hj : j ≤ 30) {a : List Nat} (ha : a.length ≤ 300) :
    ((ckM js a).2 = 0 ∧ Going (ckM js a).1 (j + 1) a []) ∨ ((ckM js a).2 = 14 ∧ Left (ckM js a).1.d s r a []) := by
  obtain ⟨h1, h3, h4, h5⟩ := h
  have hl := hd_le (js.gen + 1) a
  have hS := ck_steps h1 a (by omega) (by omega) (by omega)
  rcases hS.way with ⟨e, g, n⟩ | h
  · left
    refine ⟨e, g, hS.room.trans h3, by omega, ?_⟩
    rw [jb_nil, n]
    omega
  · exact .inr h
theorem going_fuse {js : JS} {j : Nat} {s : List Nat} {r : List (List Nat)} (h : Rounds js j s r) (n : Int) : Going ⟨js.d.fuseM n, js.file, js.gen⟩ j s r := by
  obtain ⟨h1, _, h3, h4, h5⟩ := h
  have e : (js.d.fuseM n).b0 = js.d.b0 ∧ (js.d.fuseM n).b1 = js.d.b1 ∧ (js.d.fuseM n).s0 = js.d.s0 ∧ (js.d.fuseM n).s1 = js.d.s1 ∧ (js.d.fuseM n).room = js.d.room := by
    unfold DS.fuseM
    split <;> exact ⟨rfl, rfl, rfl, rfl, rfl⟩
  exact ⟨⟨h1.has.of_eq ⟨e.1, e.2.1, e.2.2.1, e.2.2.2.1⟩, h1.pos, h1.lt⟩, e.2.2.2.2.trans h3, h4, h5⟩
/-- where the law stands: in order, or down with the last call under way -/
def Stand (js : JS) (j ev : Nat) (s : List Nat) (r : List (List Nat)) (s' : List Nat) (r' : List (List Nat)) : Prop := (ev = 0 ∧ Going js j s r) ∨ (ev = 14 ∧ Left js.d s r s' r')
structure KSt (w wr : World) (S : Nat → Prop) (g gj : Nat) (js : JS) (j ev : Nat) (As : Option Addr) (s : List Nat) (Am : Option Addr) (s' : List Nat) (X : Option Addr) (ps : List Part) (Xm : Option Addr) (pm : List Part) : Prop where
  jw : JW w wr S g gj js
  snap : CB w As s
  maybe : CB w Am s'
  recs : RowAt w wr (JG S gj) X ps
  might : RowAt w wr (JG S gj) Xm pm
  len : ps.length ≤ j ∧ pm.length ≤ j + 1
  stand : Stand js j ev s (bodies ps) s' (bodies pm)
/-! a row that is copied, and one part behind it: the shapes of memory -/
def rowE : Obj := .cells #[] 22
def rowL (q : Part) : Obj := .cells #[q.val] 22
theorem row_rd {w : World} {B : Nat} {A : Option Addr} {q : Part} : partE.Rd w B A [q] ↔ Rd w B A [q.val] := partE_rd
theorem row_o1 (w : World) : partE.Own (w.alloc rowE).drew w.heap.size 22 (.slice (some ⟨w.heap.size, 0, none⟩) 0 0) [] := Elem.Own.new partE w w.heap.size 22 [] (Nat.le_refl _) (by simp)
theorem row_o2 (w : World) (q : Part) : partE.Own ((w.alloc rowE).alloc (rowL q)).drew w.heap.size 22 (.slice (some ⟨w.heap.size, 0, none⟩) 0 0) [] := (Elem.Own.new partE w w.heap.size 22 [] (Nat.le_refl _) (by simp)).alloc _
theorem row_o3 (w : World) (q : Part) : partE.Own ((w.alloc (rowL q)).alloc rowE).drew w.heap.size 22 (.slice (some ⟨w.heap.size + 1, 0, none⟩) 0 0) [] := by
  have h : partE.Own ((w.alloc (rowL q)).alloc rowE) w.heap.size 22 (.slice (some ⟨(w.alloc (rowL q)).heap.size, 0, none⟩) 0 0) [] := Elem.Own.new partE (w.alloc (rowL q)) w.heap.size 22 [] (by simp) (by simp)
  rw [show (w.alloc (rowL q)).heap.size = w.heap.size + 1 by simp] at h
  exact h
theorem aa_1 {wr w2 : World} {A2 : Option Addr} {c2 : Nat} {r2 : List Part} (q : Part) (hown2 : partE.Own w2 wr.heap.size 22 (.slice A2 r2.length c2) r2) (hu2 : ∀ S : Nat → Prop, (∀ k, (Value.slice (some ⟨wr.heap.size, 0, none⟩) 0 0).ownBlock = some k → S k) → Upd S (wr.alloc rowE).drew w2) :
    Below wr.heap.size wr w2 ∧ Below wr.heap.size wr (w2.alloc (rowL q)) ∧ partE.Own (w2.alloc (rowL q)) wr.heap.size 22 (.slice A2 r2.length c2) r2 ∧ partE.Rd (w2.alloc (rowL q)) (w2.heap.size + 1) (some ⟨w2.heap.size, 0, none⟩) [q] ∧ wr.heap.size ≤ (w2.alloc (rowL q)).heap.size := by
  have h0 : Below wr.heap.size wr (wr.alloc rowE).drew := ((Below.refl _ _).alloc (Nat.le_refl _) _).drew
  have h1 := h0.trans ((hu2 (fun k => k = wr.heap.size) (fun k hk => (Option.some.inj hk).symm)).below h0.size (fun i _ e => by omega))
  have h2 := h1.alloc h1.size (rowL q)
  exact ⟨h1, h2, hown2.alloc _, row_rd.2 (Rd.new w2 [q.val] 22), h2.size⟩
theorem aa_2 {wr w2 : World} (q : Part) (hu2 : ∀ S : Nat → Prop, (∀ k, (Value.slice (some ⟨wr.heap.size, 0, none⟩) 0 0).ownBlock = some k → S k) → Upd S ((wr.alloc rowE).alloc (rowL q)).drew w2) :
    Below wr.heap.size wr w2 ∧ partE.Rd w2 (wr.heap.size + 2) (some ⟨wr.heap.size + 1, 0, none⟩) [q] := by
  have h0 : Below wr.heap.size wr ((wr.alloc rowE).alloc (rowL q)).drew := (((Below.refl _ _).alloc (Nat.le_refl _) _).alloc (by simp) _).drew
  have hu := hu2 (fun k => k = wr.heap.size) (fun k hk => (Option.some.inj hk).symm)
  have hr : Rd ((wr.alloc rowE).alloc (rowL q)).drew (wr.heap.size + 2) (some ⟨wr.heap.size + 1, 0, none⟩) [q.val] := Rd.newAt (wr.alloc rowE) [q.val] 22 (by simp) (by omega)
  refine ⟨h0.trans (hu.below h0.size (fun i _ e => by omega)), row_rd.2 (hr.updN hu (by simp) (fun x hx _ e => ?_))⟩
  obtain rfl := Option.some.inj hx
  exact absurd e (by simp)
theorem aa_3 {wr w2 : World} (q : Part) (hu2 : ∀ S : Nat → Prop, (∀ k, (Value.slice (some ⟨wr.heap.size + 1, 0, none⟩) 0 0).ownBlock = some k → S k) → Upd S ((wr.alloc (rowL q)).alloc rowE).drew w2) :
    Below wr.heap.size wr w2 ∧ partE.Rd w2 (wr.heap.size + 1) (some ⟨wr.heap.size, 0, none⟩) [q] := by
  have h0 : Below wr.heap.size wr ((wr.alloc (rowL q)).alloc rowE).drew := (((Below.refl _ _).alloc (Nat.le_refl _) _).alloc (by simp) _).drew
  have hu := hu2 (fun k => k = wr.heap.size + 1) (fun k hk => (Option.some.inj hk).symm)
  have hr : Rd ((wr.alloc (rowL q)).alloc rowE).drew (wr.heap.size + 1) (some ⟨wr.heap.size, 0, none⟩) [q.val] := (Rd.new wr [q.val] 22).alloc (by simp) rowE
  refine ⟨h0.trans (hu.below h0.size (fun i _ e => by omega)), row_rd.2 (hr.updN hu (by simp) (fun x hx _ e => ?_))⟩
  obtain rfl := Option.some.inj hx
  exact absurd e (by simp)
theorem row_below {wr w w' : World} {v : Value} {r : List Part} (hB : Below wr.heap.size wr w) (ho : partE.Own w wr.heap.size 22 v r) (hu : ∀ S : Nat → Prop, (∀ k, v.ownBlock = some k → S k) → Upd S w w') : Below wr.heap.size wr w' :=
  hB.trans ((hu (fun k => v.ownBlock = some k) fun _ h => h).below hB.size fun i _ e => (Elem.Own.lt ho i e).1)
theorem CB.of_ok {w : World} {x : JActM} (h : x.Ok w) (hb : x.b.length ≤ 300) : CB w x.A x.b := ⟨h.2.2.2.1, h.2.2.2.2.1, hb⟩
/-- the row with one part more is made -/
theorem kst_row {w wr w3 : World} {S : Nat → Prop} {g gj : Nat} {js : JS} {j : Nat} {As : Option Addr} {s : List Nat} {Am : Option Addr} {s' : List Nat} {X : Option Addr} {ps : List Part} {Xm : Option Addr} {pm : List Part} (h : KSt w wr S g gj js j 0 As s Am s' X ps Xm pm)
    {q : Part} (hq : CB w q.A q.l) {A3 : Option Addr} {c3 : Nat} {r3 : List Part} (hr : r3 = ps ++ [q]) (ho : partE.Own w3 wr.heap.size 22 (.slice A3 r3.length c3) r3) (hb : Below wr.heap.size wr w3) :
    JW w w3 S g gj js ∧ CB w As s ∧ RowAt w w3 (JG S gj) X ps ∧ (RowAt w w3 (JG S gj) A3 r3 ∧ r3.length ≤ j + 1) ∧ bodies r3 = bodies ps ++ [q.l] ∧ Going js j s (bodies ps) := by
  refine ⟨h.jw.next hb, h.snap, h.recs.next hb, ⟨⟨partE_rd.1 ho.rd, fun x hx _ hs => ?_, fun p hp => ?_⟩, ?_⟩, ?_, ?_⟩
  · have h1 := h.jw.1.under _ hs
    have h2 := (Elem.Own.lt ho x.block (by rw [hx]; rfl)).1
    omega
  · rw [hr] at hp
    rcases List.mem_append.1 hp with hp | hp
    · exact h.recs.2.2 p hp
    · obtain rfl := List.mem_singleton.1 hp
      exact hq
  · rw [hr, List.length_append, List.length_singleton]
    have := h.len.1
    omega
  · rw [hr]; simp [bodies]
  · rcases h.stand with ⟨_, h1⟩ | ⟨h1, _⟩
    · exact h1
    · cases h1
set_option maxHeartbeats 4000000 in
set_option maxRecDepth 100000 in
theorem keeps_law (A : Option Addr) (c : Nat) (ls : List JActM) (fu ke : Nat) (w : World) (hT : Tab w) (hr : jactE.Rd w w.heap.size A ls) (hok : ∀ x ∈ ls, x.Ok w) (hsz : ls.length ≤ 9223372036854775807) (hfu : fu < 65536) (hke : ke < 65536) :
    Calls Tryd.prog 5 #[.slice A ls.length c, .int .u16 (fu : Int), .int .u16 (ke : Int)] w fun e w' => e = .returned (.bool true) ∧ Below w.heap.size w w' := by
  have CF := kept (few_any A c ls w hr hok hsz)
  have CW := kept (fun W (hb : Below w.heap.size w W) => works_any W (hT.next hb))
  by_cases hfew : fewA ls
  · have hd : decide (fewA ls) = true := decide_eq_true hfew
    rw [hd] at CF
    have h30 : ls.length ≤ 30 := hfew.1
    have HFEW := kept hfew.2
    have CN := kept (new_any 1048576 w)
    have HR := kept hr
    have HOK := kept hok
    have h4 : 0 < w.heap.size := hT.1
    clear hr hok hsz hd hfew
    go_enter Tryd.func5, Tryd.ntmps5
    go_wp2_with fail
    refine CF.out.mono ?_
    rintro e w' ⟨rfl, rfl⟩
    go_wp2_with fail
    refine CN.out.mono ?_
    rintro e w1 ⟨rfl, hd1, hb1⟩
    have C2 := kept (open_any _ _ _ w1 hd1 (hT.next hb1) w.heap.size hb1.size (fun k hk => by omega) h4)
    have HB1 := kept hb1
    clear hd1 hb1 CN CF
    go_wp2_with fail
    refine C2.out.mono ?_
    rintro e w2 ⟨S2, hG2, -, ⟨-, gj, A2, c2, X2, cX2, ps2, rfl, hgj, hJ2, -⟩ | ⟨he, -⟩⟩
    case inr => exact absurd rounds_first.2 he
    have J2 : JW w w2 S2 w.heap.size gj (openM (newD 1048576)).1 := ⟨hJ2, HB1.out.trans (hG2.below HB1.out.size (fun k hk => by omega)), fun k hk => hk.elim (fun h => (hG2.base HB1.out.size (fun k hk => by omega)) k h) (fun e => by have := HB1.out.size; omega)⟩
    clear hG2 hgj hJ2 C2 HB1
    have HG2 := kept rounds_first.1
    generalize (openM (newD 1048576)).1 = js2 at *
    have CU := kept (fuse_any S2 w.heap.size js2.d (fu : Int) w2 J2.1.1 (by omega))
    have HJ2 := kept J2
    clear J2
    go_wp2_with fail
    refine CU.out.mono ?_
    rintro e w3 ⟨rfl, hD3, hU3⟩
    have HST : Kept (KSt w w3 S2 w.heap.size gj ⟨js2.d.fuseM (fu : Int), js2.file, js2.gen⟩ 0 0 none [] none [] none [] none []) := ⟨by
      have hJ := HJ2.out
      have hg : Goes (JG S2 gj) w2 (JG S2 gj) w3 := ⟨hU3.mono fun _ _ h => .inl h, fun _ h => .inl h⟩
      refine ⟨hJ.step ⟨hD3, hJ.1.2.1.upd hU3 hJ.1.2.2.1, hJ.1.2.2⟩ hg, CB.nil w, CB.nil w, RowAt.nil _ _ _, RowAt.nil _ _ _, ⟨Nat.zero_le _, Nat.zero_le _⟩, .inl ⟨rfl, going_fuse HG2.out _⟩⟩⟩
    clear hD3 hU3 CU HJ2 HG2
    go_wp2_with fail
    go_loopw [11, 12, 13, 14, 15, 16] (fun e p q r s i wr => ∃ (j ev : Nat) (S : Nat → Prop) (js : JS) (As : Option Addr) (sn : List Nat) (cs : Nat) (Am : Option Addr) (sm : List Nat) (cm : Nat) (X : Option Addr) (ps : List Part) (cX : Nat) (Xm : Option Addr) (pm : List Part) (cM : Nat), j ≤ ls.length ∧ e = .int .i64 (ev : Int) ∧ p = .slice As sn.length cs ∧ q = .slice Am sm.length cm ∧ r = .slice X ps.length cX ∧ s = .slice Xm pm.length cM ∧ i = .int .i64 (j : Int) ∧ Kept (KSt w wr S w.heap.size gj js j ev As sn Am sm X ps Xm pm)) (fun _ _ _ _ _ i _ => ls.length - (intOf i).toNat)
    case atStart => exact ⟨0, 0, S2, _, none, [], 0, none, [], 0, none, [], 0, none, [], 0, Nat.zero_le _, rfl, rfl, rfl, rfl, rfl, rfl, HST⟩
    case round =>
      obtain ⟨j, ev, S, js, As, sn, cs, Am, sm, cm, X, ps, cX, Xm, pm, cM, hj, rfl, rfl, rfl, rfl, rfl, rfl, hin⟩ := hrel
      by_cases hgo : j < ls.length ∧ ev = 0
      · obtain ⟨hlt, rfl⟩ := hgo
        obtain ⟨x, hx⟩ : ∃ x, ls[j]? = some x := ⟨_, List.getElem?_eq_getElem hlt⟩
        have hxo := HOK.out x (List.mem_of_getElem? hx)
        have hx3 := HFEW.out x (List.mem_of_getElem? hx)
        obtain ⟨b, o, rfl, hbb, hcs⟩ := (HR.out.next hin.out.jw.2.1).at_ hx
        have HCB := kept (CB.of_ok hxo hx3)
        obtain ⟨xk, xn, xt, xA, xb, xc⟩ := x
        have c0 : wr.cell? ⟨b, o + j * 4, none⟩ = some (.int .u8 (xk : Int)) := hcs 0 _ rfl
        have c3 : wr.cell? ⟨b, o + j * 4 + 3, none⟩ = some (.slice xA xb.length xc) := hcs 3 _ rfl
        dsimp only at HCB
        have hjn : (j : Int) < (ls.length : Int) := by omega
        clear hcs hx hxo hx3
        go_upto_region 13 with fail
        have O1 := kept (row_o1 wr)
        have O2 := kept (row_o2 wr ⟨xA, xb, xc⟩)
        have O3 := kept (row_o3 wr ⟨xA, xb, xc⟩)
        have hR0 : partE.Rd wr wr.heap.size X ps := partE_rd.2 hin.out.recs.1
        have R1 := kept (hR0.alloc (Nat.le_refl _) rowE)
        have R2 := kept ((hR0.alloc (Nat.le_refl _) rowE).alloc (by simp) (rowL ⟨xA, xb, xc⟩))
        have R3 := kept ((hR0.alloc (Nat.le_refl _) (rowL ⟨xA, xb, xc⟩)).alloc (by simp) rowE)
        have hpl : ps.length ≤ 30 := by have := hin.out.len.1; omega
        have hz : (([] : List Part).length + ps.length) * 24 ≤ 140737488355328 := by simp only [List.length_nil]; omega
        have HZ2 : Kept (∀ r2 : List Part, Kept (r2 = [] ++ ps) → (r2.length + [(⟨xA, xb, xc⟩ : Part)].length) * 24 ≤ 140737488355328) := ⟨fun r2 h => by rw [h.out, List.nil_append, List.length_singleton]; omega⟩
        have HSB : Kept (∀ W, Below wr.heap.size wr W → W.cell? ⟨b, o + j * 4 + 3, none⟩ = some (.slice xA xb.length xc)) := ⟨fun W hb => (hb.cell (p := ⟨b, o + j * 4 + 3, none⟩) hbb).trans c3⟩
        clear hR0
        dsimp only [rowE, rowL, Part.val] at O1 O2 O3 R1 R2 R3
        go_cut [13, 15] (fun p q wx => p = .slice As sn.length cs ∧ ∃ A3 c3 r3, Kept (r3 = ps ++ [(⟨xA, xb, xc⟩ : Part)]) ∧ q = .slice A3 (List.length r3) c3 ∧ Kept (partE.Own wx wr.heap.size 22 (.slice A3 (List.length r3) c3) r3 ∧ Below wr.heap.size wr wx))
        case first =>
          go_region_held3 (fun W => W.cell? ⟨b, o + j * 4 + 3, none⟩ = some (.slice xA xb.length xc)) (first | exact HSB.out _ (by assumption) | go_keep) (first
            | (refine step_appEU _ partE (by rfl) (.tmp 52) (.tmp 53) 38 (by rfl) wr.heap.size 22 Tryd.underlying38 bytes_info (by rfl) _ [] (by rfl) O1.out _ X _ cX ps (by rfl) rfl R1.out hz (by decide) (by simp) ?_; intro A2 c2 w2 r2 hr2 hown2 hu2 hx2; obtain ⟨HB2, HBA, HOG, HRG, HSA⟩ := aa_1 ⟨xA, xb, xc⟩ hown2 hu2; clear hown2 hu2 hx2; have hz2 := HZ2.out r2 hr2)
            | (refine step_appEU _ partE (by rfl) (.tmp 52) (.tmp 53) 38 (by rfl) wr.heap.size 22 Tryd.underlying38 bytes_info (by rfl) _ [] (by rfl) O2.out _ X _ cX ps (by rfl) rfl R2.out hz (by decide) (by simp; omega) ?_; intro A2 c2 w2 r2 hr2 HOG hu2 hx2; obtain ⟨HB2, HRG⟩ := aa_2 ⟨xA, xb, xc⟩ hu2; have HBA := HB2; have HSA := HB2.size; clear hu2 hx2; have hz2 := HZ2.out r2 hr2)
            | (refine step_appEU _ partE (by rfl) (.tmp 52) (.tmp 53) 38 (by rfl) wr.heap.size 22 Tryd.underlying38 bytes_info (by rfl) _ [] (by rfl) O3.out _ X _ cX ps (by rfl) rfl R3.out hz (by decide) (by simp; omega) ?_; intro A2 c2 w2 r2 hr2 HOG hu2 hx2; obtain ⟨HB2, HRG⟩ := aa_3 ⟨xA, xb, xc⟩ hu2; have HBA := HB2; have HSA := HB2.size; clear hu2 hx2; have hz2 := HZ2.out r2 hr2)
            | (refine step_appEU _ partE (by rfl) (.tmp 54) (.tmp 60) 38 (by rfl) wr.heap.size 22 Tryd.underlying38 bytes_info (by rfl) _ r2 (by rfl) HOG _ _ _ _ [⟨xA, xb, xc⟩] (by rfl) rfl HRG hz2 (by decide) HSA ?_; intro A3 c3 w3 r3 hr3 hown3 hu3 hx3; have HB3 : Below wr.heap.size wr w3 := row_below HBA HOG hu3; clear hu3 hx3))
          all_goals
            go_wp2_with fail
            go_meet
            exact ⟨rfl, A3, c3, r3, ⟨by rw [hr3.out, hr2.out]; simp⟩, rfl, ⟨hown3, HB3⟩⟩
        case rest =>
          obtain ⟨rfl, A3, c4, r3, hr3, rfl, hob⟩ := hcut
          obtain ⟨w3, rfl⟩ : ∃ w3 : World, w3 = wc := ⟨_, rfl⟩
          have hwb := hob.out.2
          have HIN := kept (kst_row hin.out HCB.out hr3.out hob.out.1 hwb)
          have c0' : w3.cell? ⟨b, o + j * 4, none⟩ = some (.int .u8 (xk : Int)) := (hwb.cell (p := ⟨b, o + j * 4, none⟩) hbb).trans c0
          have c3' := HSB.out w3 hwb
          have hb33 : xb.length ≤ 300 := HCB.out.2.2
          have CA := kept (add_w HIN.out.1 hT xA xc xb HCB.out.2.1 HCB.out.1 hb33)
          have CC := kept (ck_w HIN.out.1 hT xA xc xb HCB.out.2.1 HCB.out.1 hb33)
          have hbb3 : b < w3.heap.size := Nat.lt_of_lt_of_le hbb hwb.size
          clear O1 O2 O3 R1 R2 R3 hz HZ2 HSB hr3 hob hwb c0 c3
          by_cases hk : xk = 3
          · subst hk
            go_wp2_with fail
            refine CC.out.mono ?_
            rintro e w4 ⟨rfl, S4, hJ4, hG4⟩
            rcases going_ck (HIN.out.2.2.2.2.2) (by omega) hb33 with ⟨e0, hgo⟩ | ⟨e0, hleft⟩
            · rw [e0]
              have HN : Kept (KSt w w4 S4 w.heap.size gj (ckM js xb).1 (j + 1) 0 xA xb xA xb none [] none []) := ⟨⟨hJ4, HCB.out, HCB.out, RowAt.nil _ _ _, RowAt.nil _ _ _, ⟨Nat.zero_le _, Nat.zero_le _⟩, .inl ⟨rfl, hgo⟩⟩⟩
              clear hJ4 hG4 CC CA e0 hgo
              go_wp2_with fail
              go_roundw
              case rel => exact ⟨j + 1, 0, S4, _, xA, xb, xc, xA, xb, xc, none, [], 0, none, [], 0, by omega, rfl, rfl, rfl, rfl, rfl, rfl, HN⟩
              case measure => simp [intOf]; omega
            · rw [e0]
              have HN : Kept (KSt w w4 S4 w.heap.size gj (ckM js xb).1 (j + 1) 14 As sn xA xb X ps none []) := ⟨⟨hJ4, HIN.out.2.1, HCB.out, HIN.out.2.2.1.goes hG4, RowAt.nil _ _ _, ⟨by have := hin.out.len.1; omega, Nat.zero_le _⟩, .inr ⟨rfl, hleft⟩⟩⟩
              clear hJ4 hG4 CC CA e0 hleft
              go_wp2_with fail
              go_roundw
              case rel => exact ⟨j + 1, 14, S4, _, As, sn, cs, xA, xb, xc, X, ps, cX, none, [], 0, by omega, rfl, rfl, rfl, rfl, rfl, rfl, HN⟩
              case measure => simp [intOf]; omega
          · go_wp2_with fail
            refine CA.out.mono ?_
            rintro e w4 ⟨rfl, S4, hJ4, hG4⟩
            have hbr : bodies r3 = bodies ps ++ [xb] := HIN.out.2.2.2.2.1
            rcases going_add (HIN.out.2.2.2.2.2) (by omega) hb33 with ⟨e0, hgo⟩ | ⟨e0, hleft⟩
            · rw [e0]
              rw [← hbr] at hgo
              have HN : Kept (KSt w w4 S4 w.heap.size gj (addM js xb).1 (j + 1) 0 As sn As sn A3 r3 A3 r3) := ⟨⟨hJ4, HIN.out.2.1, HIN.out.2.1, HIN.out.2.2.2.1.1.goes hG4, HIN.out.2.2.2.1.1.goes hG4, ⟨by have := HIN.out.2.2.2.1.2; omega, by have := HIN.out.2.2.2.1.2; omega⟩, .inl ⟨rfl, hgo⟩⟩⟩
              clear hJ4 hG4 CC CA e0 hgo hbr
              go_wp2_with fail
              go_roundw
              case rel => exact ⟨j + 1, 0, S4, _, As, sn, cs, As, sn, cs, A3, r3, c4, A3, r3, c4, by omega, rfl, rfl, rfl, rfl, rfl, rfl, HN⟩
              case measure => simp [intOf]; omega
            · rw [e0]
              rw [← hbr] at hleft
              have HN : Kept (KSt w w4 S4 w.heap.size gj (addM js xb).1 (j + 1) 14 As sn As sn X ps A3 r3) := ⟨⟨hJ4, HIN.out.2.1, HIN.out.2.1, HIN.out.2.2.1.goes hG4, HIN.out.2.2.2.1.1.goes hG4, ⟨by have := hin.out.len.1; omega, by have := HIN.out.2.2.2.1.2; omega⟩, .inr ⟨rfl, hleft⟩⟩⟩
              clear hJ4 hG4 CC CA e0 hleft hbr
              go_wp2_with fail
              go_roundw
              case rel => exact ⟨j + 1, 14, S4, _, As, sn, cs, As, sn, cs, X, ps, cX, A3, r3, c4, by omega, rfl, rfl, rfl, rfl, rfl, rfl, HN⟩
              case measure => simp [intOf]; omega
      · have hways : (j < ls.length ∧ ev = 14) ∨ (¬ j < ls.length ∧ ev = 0) ∨ (¬ j < ls.length ∧ ev = 14) := by
          rcases hin.out.stand with ⟨e0, _⟩ | ⟨e0, _⟩ <;> omega
        have HLS := kept (show j ≤ 30 by omega)
        clear hgo
        obtain ⟨t0, ht0⟩ : ∃ b : Bool, b = ((ke : Int) % 2 == 1) := ⟨_, rfl⟩
        have C5 := kept (crash_any S w.heap.size js.d (ke : Int) t0 wr hin.out.jw.1.1)
        have HTO : Kept (Told (js.d.crashM (ke : Int) t0) sn (bodies ps) ∨ (ev = 14 ∧ Told (js.d.crashM (ke : Int) t0) sm (bodies pm))) := ⟨by
          rcases hin.out.stand with ⟨_, hgo⟩ | ⟨e14, hl⟩
          · exact .inl (going_len hgo HLS.out _ _)
          · exact (hl (ke : Int) t0).imp id (fun h => ⟨e14, h⟩)⟩
        have HT0 := kept ht0
        clear ht0
        obtain ⟨b1, hb1⟩ : ∃ b : Bool, b = decide ((pick (js.d.crashM (ke : Int) t0)).2.snap = sn) := ⟨_, rfl⟩
        obtain ⟨b2, hb2⟩ : ∃ b : Bool, b = decide ((pick (js.d.crashM (ke : Int) t0)).2.recs = bodies ps) := ⟨_, rfl⟩
        obtain ⟨b3, hb3⟩ : ∃ b : Bool, b = decide ((pick (js.d.crashM (ke : Int) t0)).2.snap = sm) := ⟨_, rfl⟩
        obtain ⟨b4, hb4⟩ : ∃ b : Bool, b = decide ((pick (js.d.crashM (ke : Int) t0)).2.recs = bodies pm) := ⟨_, rfl⟩
        have HBO : Kept ((b1 && b2) = true ∨ (ev = 14 ∧ (b3 && b4) = true)) := ⟨by
          rcases HTO.out with ⟨_, e1, e2⟩ | ⟨e14, _, e1, e2⟩
          · left; rw [hb1, hb2, decide_eq_true e1, decide_eq_true e2]; rfl
          · right; exact ⟨e14, by rw [hb3, hb4, decide_eq_true e1, decide_eq_true e2]; rfl⟩⟩
        have HE0 : Kept ((openM (js.d.crashM (ke : Int) t0)).2 = 0) := ⟨by rcases HTO.out with h | ⟨_, h⟩ <;> exact h.1⟩
        have HB1 := kept (And.intro hb1 (And.intro hb2 (And.intro hb3 hb4)))
        clear hb1 hb2 hb3 hb4
        have C6 := kept (fun (S4 : Nat → Prop) (w4 : World) (hD : Dsk w4 S4 w.heap.size (js.d.crashM (ke : Int) t0)) (hG : Goes S wr S4 w4) => open_any S4 w.heap.size (js.d.crashM (ke : Int) t0) w4 hD (hT.next (hin.out.jw.2.1.trans (hG.below hin.out.jw.2.1.size (fun k hk => hin.out.jw.2.2 k (.inl hk))))) w.heap.size (Nat.le_trans hin.out.jw.2.1.size hG.1.size) (hG.base hin.out.jw.2.1.size (fun k hk => hin.out.jw.2.2 k (.inl hk))) h4)
        generalize js.d.crashM (ke : Int) t0 = d5 at *
        rcases hways with ⟨hlt, rfl⟩ | ⟨hlt, rfl⟩ | ⟨hlt, rfl⟩
        all_goals first | have hjn : (j : Int) < (ls.length : Int) := by omega | have hjn : ¬ (j : Int) < (ls.length : Int) := by omega
        all_goals go_upto_region 22 with fail
        all_goals go_wp2_with fail
        all_goals rw [← HT0.out]
        all_goals refine C5.out.mono ?_
        all_goals rintro e w4 ⟨rfl, S4, hD4, hG4⟩
        all_goals
          have C7 := kept (C6.out S4 w4 hD4 hG4)
          have HG4 := kept (goesJ hG4 gj)
          have HB4 := kept (And.intro (hG4.base hin.out.jw.2.1.size (fun k hk => hin.out.jw.2.2 k (.inl hk))) (hin.out.jw.2.1.trans (hG4.below hin.out.jw.2.1.size (fun k hk => hin.out.jw.2.2 k (.inl hk)))))
          clear hD4 C5 C6 hjn hlt HT0 hG4
          go_wp2_with fail
          refine C7.out.mono ?_
          rintro e w6 ⟨S6, hG6, -, ⟨-, gj6, A6, c6, X6, cX6, ps6, rfl, hgj6, hJ6, hbo6, hF6, hc6, hal6, -, hpl6⟩ | ⟨he, -⟩⟩
          case inr => exact absurd HE0.out he
          have hbw6 : Below w.heap.size w w6 := HB4.out.2.trans (hG6.below HB4.out.2.size HB4.out.1)
          have hGG : Goes (JG S gj) wr (JG S6 gj) w6 := HG4.out.trans (goesJ hG6 gj)
          have E1 := kept (fun (W : World) (hb : Below w6.heap.size w6 W) => equal_any W W.heap.size w.heap.size A6 As _ _ c6 cs _ sn rfl rfl hal6 hin.out.snap.2.1 (hF6.1.next hb) ((hin.out.snap.1.below hbw6).below (hb.mono hbw6.size)))
          have E3 := kept (fun (W : World) (hb : Below w6.heap.size w6 W) => equal_any W W.heap.size w.heap.size A6 Am _ _ c6 cm _ sm rfl rfl hal6 hin.out.maybe.2.1 (hF6.1.next hb) ((hin.out.maybe.1.below hbw6).below (hb.mono hbw6.size)))
          have hRX := (hin.out.recs.goes hGG).parts hbw6
          have hRM := (hin.out.might.goes hGG).parts hbw6
          have hl1 := hin.out.len
          have hlj := HLS.out
          have E2 := kept (fun (W : World) (hb : Below w6.heap.size w6 W) => rsame_any X6 X ps6.length ps.length cX6 cX ps6 ps W rfl rfl (hF6.2.1.next hb) (hRX.next hb) (by omega) (by omega))
          have E4 := kept (fun (W : World) (hb : Below w6.heap.size w6 W) => rsame_any X6 Xm ps6.length pm.length cX6 cM ps6 pm W rfl rfl (hF6.2.1.next hb) (hRM.next hb) (by omega) (by omega))
          rw [hbo6, ← HB1.out.2.1] at E2
          rw [hbo6, ← HB1.out.2.2.2] at E4
          rw [← HB1.out.1] at E1
          rw [← HB1.out.2.2.1] at E3
          have W9 := kept (fun (W : World) (hb : Below w6.heap.size w6 W) => CW.out W (hbw6.trans (hb.mono hbw6.size)))
          have HBW := kept hbw6
          clear C7 HG4 HB4 hGG hRX hRM hl1 hlj hbw6 hF6 hJ6 hG6 hbo6 hal6 hpl6 hgj6 hc6 HE0 HTO hin HLS HB1
          go_upto_region 24 with fail
          go_cut [21] (fun p wr => p = .bool (b1 && b2) ∧ Below w6.heap.size w6 wr)
          case first =>
            cases b1 with
            | false =>
              go_wp2_with fail
              refine (E1.out _ (Below.refl _ _)).mono ?_
              rintro e w' ⟨rfl, rfl⟩
              go_wp2_with fail
              go_meet
              exact ⟨rfl, Below.refl _ _⟩
            | true =>
              go_wp2_with fail
              refine (E1.out _ (Below.refl _ _)).mono ?_
              rintro e w' ⟨rfl, rfl⟩
              go_wp2_with fail
              refine (E2.out _ (Below.refl _ _)).mono ?_
              rintro e w' ⟨rfl, q, rfl⟩
              go_wp2_with fail
              go_meet
              exact ⟨rfl, ⟨rfl, rfl, rfl, Nat.le_refl _, fun _ _ => rfl⟩⟩
          case rest =>
            obtain ⟨rfl, hb7⟩ := hcut
            obtain ⟨w7, rfl⟩ : ∃ w7 : World, w7 = wc := ⟨_, rfl⟩
            clear E1 E2
            have HB7 := kept hb7
            clear hb7
            obtain ⟨u1, hu1⟩ : ∃ u, (b1 && b2) = u := ⟨_, rfl⟩
            rw [hu1] at HBO ⊢
            clear hu1
            go_upto_region 25 with fail
            go_cut [22] (fun p wr => ∃ v : Bool, p = .bool v ∧ Kept (u1 = true ∨ v = true) ∧ Below w6.heap.size w6 wr)
            case first =>
              cases b3 with
              | false =>
                go_wp2_with (refine (E3.out _ HB7.out).mono ?_; rintro e w' ⟨rfl, rfl⟩)
                go_meet
                exact ⟨false, rfl, ⟨HBO.out.elim .inl (fun h => absurd h.2 (by simp))⟩, HB7.out⟩
              | true =>
                go_wp2_with (first | (refine (E3.out _ HB7.out).mono ?_; rintro e w' ⟨rfl, rfl⟩) | (refine (E4.out _ HB7.out).mono ?_; rintro e w' ⟨rfl, q, rfl⟩))
                go_meet
                first
                  | exact ⟨false, rfl, ⟨HBO.out.elim .inl (fun h => absurd h.1 (by decide))⟩, HB7.out⟩
                  | exact ⟨b4, rfl, ⟨HBO.out.elim .inl (fun h => .inr (by simpa using h.2))⟩, HB7.out.trans ⟨rfl, rfl, rfl, Nat.le_refl _, fun _ _ => rfl⟩⟩
            case rest =>
              obtain ⟨v1, rfl, HUV, hb8⟩ := hcut
              obtain ⟨w8, rfl⟩ : ∃ w8 : World, w8 = wc := ⟨_, rfl⟩
              have W10 := kept (W9.out w8 hb8)
              have HB8 := kept (HBW.out.trans (hb8.mono HBW.out.size))
              clear E3 E4 W9 HB7 HBO hb8
              cases u1 with
              | true =>
                go_wp2_with fail
                refine W10.out.mono ?_
                rintro e w9 ⟨rfl, hb9⟩
                have HF := kept (HB8.out.trans (hb9.mono HB8.out.size))
                clear hb9 W10
                go_wp2_with fail
                go_ret
                exact ⟨rfl, HF.out⟩
              | false =>
                obtain rfl : v1 = true := HUV.out.elim (fun h => absurd h (by decide)) id
                go_wp2_with fail
                refine W10.out.mono ?_
                rintro e w9 ⟨rfl, hb9⟩
                have HF := kept (HB8.out.trans (hb9.mono HB8.out.size))
                clear hb9 W10
                go_wp2_with fail
                go_ret
                exact ⟨rfl, HF.out⟩
  · have hd : decide (fewA ls) = false := decide_eq_false hfew
    rw [hd] at CF
    have CW1 := kept (CW.out w (Below.refl _ _))
    clear hr hok hd CW
    go_enter Tryd.func5, Tryd.ntmps5
    go_wp2_with fail
    refine CF.out.mono ?_
    rintro e w' ⟨rfl, rfl⟩
    go_wp2_with fail
    refine CW1.out.mono ?_
    rintro e w1 ⟨rfl, hb⟩
    have HB := kept hb
    clear hb
    go_wp2_with fail
    go_ret
    exact ⟨rfl, HB.out⟩
end Go.Proofs.YtdlghabpnpbebaaDoor.Jrn
