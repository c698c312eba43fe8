/- The law CardSame, as a walk: the first half. -/
import Derived.Test.YtijdkbejlaebhaaCardTitle
import Derived.Deep.RegionHeld3
import Derived.Test.YtijdkbejlaebhaaCardRel
namespace Go.Proofs.Ytijdkbejlaebhaa.Card
open Go.RowKit Go.Proofs.Ytijdkbejlaebhaa.Mem

theorem rd_cards {w : World} {g : Nat} {cs : List CardM} (h : Blk w g (CB cs) 38) (ho : ∀ x ∈ cs, x.Ok w w.heap.size) : RdCards w w.heap.size (some ⟨g, 0, none⟩) cs := ⟨h.rd, ho⟩
theorem works_any (w : World) : Calls Try.prog 44 #[] w fun e w' => e = .returned (.bool true) ∧ Below w.heap.size w w' := by
  have C := kept (fun (W : World) (hb : Below w.heap.size w W) (hk : Blk W w.heap.size (LB [⟨1, ⟨#[]⟩, none, [], 0⟩, ⟨3, ⟨#[97]⟩, none, [], 0⟩]) 45) =>
    title_any ⟨0, some ⟨w.heap.size, 0, none⟩, [⟨1, ⟨#[]⟩, none, [], 0⟩, ⟨3, ⟨#[97]⟩, none, [], 0⟩], 2⟩ W ⟨(by show (0 : Nat) < _; decide), ⟨hk.rd, by
      intro x hx
      simp only [List.mem_cons, List.not_mem_nil, or_false] at hx
      rcases hx with rfl | rfl
      · exact ⟨Rd.nil, by decide, by decide, by decide⟩
      · exact ⟨Rd.nil, by decide, by decide, by decide⟩⟩, (by show (2 : Nat) ≤ 2; decide), (by show (2 : Nat) ≤ _; decide)⟩)
  have ht : titleOf [⟨1, ⟨#[]⟩, none, [], 0⟩, ⟨3, ⟨#[97]⟩, none, [], 0⟩] = ⟨#[97]⟩ := by decide +kernel
  rw [ht] at C
  clear ht
  have hk : Blk (w.alloc (.cells #[.int .u8 1, .string ⟨#[]⟩, .slice none 0 0, .int .u8 3, .string ⟨#[97]⟩, .slice none 0 0] 45)) w.heap.size (LB [⟨1, ⟨#[]⟩, none, [], 0⟩, ⟨3, ⟨#[97]⟩, none, [], 0⟩]) 45 := Blk.new w (LB [⟨1, ⟨#[]⟩, none, [], 0⟩, ⟨3, ⟨#[97]⟩, none, [], 0⟩]) _
  have hb := (Below.refl w.heap.size w).alloc (Nat.le_refl _) (.cells #[.int .u8 1, .string ⟨#[]⟩, .slice none 0 0, .int .u8 3, .string ⟨#[97]⟩, .slice none 0 0] 45)
  go_enter Try.func44, Try.ntmps44
  go_wp2_with fail
  refine (C.out _ hb hk).mono ?_
  rintro e w1 ⟨rfl, hb1⟩
  go_wp2
  go_ret
  exact ⟨rfl, hb.trans (hb1.mono hb.size)⟩
/-- two copies of one card, each in a variable -/
def PairRel (wd : World) (a : CardM) (p q : Value) (wr : World) : Prop :=
  ∃ (gc gd base1 base2 : Nat) (y1 y2 : CardM), p = .pointer (some ⟨gc, 0, none⟩) ∧ q = .pointer (some ⟨gd, 0, none⟩) ∧ Kept (y1.p = a.p) ∧ Kept (y2.p = a.p) ∧ Blk wr gc y1.cells 38 ∧ Blk wr gd y2.cells 38 ∧ gc ≠ gd ∧ wd.heap.size ≤ gc ∧ wd.heap.size ≤ gd ∧
    y1.Fresh wr base1 ∧ y1.Under base2 ∧ y2.Fresh wr base2 ∧ wd.heap.size ≤ base1 ∧ wd.heap.size ≤ base2 ∧ Below wd.heap.size wd wr
/-- both copies are made -/
def Both (wd : World) (a y1 y2 : CardM) (W : World) : Prop :=
  ∃ base1 base2 : Nat, Kept (y1.p = a.p) ∧ Kept (y2.p = a.p) ∧ y1.Fresh W base1 ∧ y1.Under base2 ∧ y2.Fresh W base2 ∧ wd.heap.size ≤ base1 ∧ wd.heap.size ≤ base2
theorem Both.alloc {wd W : World} {a y1 y2 : CardM} (h : Both wd a y1 y2 W) (o : Obj) : Both wd a y1 y2 (W.alloc o) := by
  obtain ⟨b1, b2, h1, h2, h3, h4, h5, h6, h7⟩ := h
  have hb := (Below.refl W.heap.size W).alloc (Nat.le_refl _) o
  exact ⟨b1, b2, h1, h2, h3.below hb (Nat.le_refl _), h4, h5.below hb (Nat.le_refl _), h6, h7⟩
theorem both_mk {wd x1 W x2 : World} {a y1 y2 : CardM} (h1 : ∃ b1, wd.heap.size ≤ b1 ∧ y1.Fresh x1 b1) (hp1 : Kept (y1.p = a.p)) (hp2 : Kept (y2.p = a.p)) (hb : Below x1.heap.size x1 W) (h2 : y2.Fresh x2 W.heap.size) (hx : Below W.heap.size W x2) (hz : wd.heap.size ≤ x1.heap.size) : Both wd a y1 y2 x2 := by
  obtain ⟨b1, hb1, hf1⟩ := h1
  exact ⟨b1, W.heap.size, hp1, hp2, hf1.below (below_next hb hx) (Nat.le_refl _), hf1.under.mono hb.size, h2, hb1, Nat.le_trans hz hb.size⟩
theorem pair_end {wd W : World} {a y1 y2 : CardM} {gc gd : Nat} {u0 u1 v0 v1 : Value} (kc : Blk W gc [u0, u1] 38) (kd : Blk W gd [v0, v1] 38) (hne : gc ≠ gd) (hgc : wd.heap.size ≤ gc) (hgd : wd.heap.size ≤ gd) (h : Both wd a y1 y2 W) (hb : Below wd.heap.size wd W) :
    PairRel wd a (.pointer (some ⟨gc, 0, none⟩)) (.pointer (some ⟨gd, 0, none⟩)) ((((W.setCell ⟨gc, 0, none⟩ (.int .u64 (y1.cid : Int))).setCell ⟨gc, 1, none⟩ (.slice y1.X y1.ls.length y1.c)).setCell ⟨gd, 0, none⟩ (.int .u64 (y2.cid : Int))).setCell ⟨gd, 1, none⟩ (.slice y2.X y2.ls.length y2.c)) := by
  obtain ⟨b1, b2, h1, h2, h3, h4, h5, h6, h7⟩ := h
  have kc1 := kc.set 0 (.int .u64 (y1.cid : Int))
  have kc2 : Blk _ gc y1.cells 38 := kc1.set 1 (.slice y1.X y1.ls.length y1.c)
  have kd2 := kd.other2 hne (.int .u64 (y1.cid : Int)) (.slice y1.X y1.ls.length y1.c)
  have kd3 := kd2.set 0 (.int .u64 (y2.cid : Int))
  have f1 := ((((h3.box kc 0 (.int .u64 (y1.cid : Int))).box kc1 1 (.slice y1.X y1.ls.length y1.c)).box kd2 0 (.int .u64 (y2.cid : Int))).box kd3 1 (.slice y2.X y2.ls.length y2.c))
  have f2 := ((((h5.box kc 0 (.int .u64 (y1.cid : Int))).box kc1 1 (.slice y1.X y1.ls.length y1.c)).box kd2 0 (.int .u64 (y2.cid : Int))).box kd3 1 (.slice y2.X y2.ls.length y2.c))
  exact ⟨gc, gd, b1, b2, y1, y2, rfl, rfl, h1, h2, kc2.other2 (fun e => hne e.symm) _ _, kd2.set2, hne, hgc, hgd, f1, h4, f2, h6, h7, below_set2 (below_set2 hb hgc _ _) hgd _ _⟩
/-- the variables are made behind both copies -/
theorem pair_new {wd W : World} {a y1 y2 : CardM} (h : Both wd a y1 y2 W) (hb : Below wd.heap.size wd W) :
    PairRel wd a (.pointer (some ⟨W.heap.size, 0, none⟩)) (.pointer (some ⟨W.heap.size + 1, 0, none⟩)) ((W.alloc (.cells #[.int .u64 (y1.cid : Int), .slice y1.X y1.ls.length y1.c] 38)).alloc (.cells #[.int .u64 (y2.cid : Int), .slice y2.X y2.ls.length y2.c] 38)) := by
  obtain ⟨b1, b2, h1, h2, h3, h4, h5, h6, h7⟩ := (h.alloc (.cells #[.int .u64 (y1.cid : Int), .slice y1.X y1.ls.length y1.c] 38)).alloc (.cells #[.int .u64 (y2.cid : Int), .slice y2.X y2.ls.length y2.c] 38)
  have hz := hb.size
  exact ⟨W.heap.size, W.heap.size + 1, b1, b2, y1, y2, rfl, rfl, h1, h2, (Blk.new W y1.cells _).alloc _, Blk.newAt _ y2.cells _ (by simp), by omega, hz, by omega, h3, h4, h5, h6, h7, (hb.alloc hz _).alloc (by simp; omega) _⟩
theorem pair_new2 {wd W : World} {a y1 y2 : CardM} (h : Both wd a y1 y2 W) (hb : Below wd.heap.size wd W) :
    PairRel wd a (.pointer (some ⟨W.heap.size + 1, 0, none⟩)) (.pointer (some ⟨W.heap.size, 0, none⟩)) ((W.alloc (.cells #[.int .u64 (y2.cid : Int), .slice y2.X y2.ls.length y2.c] 38)).alloc (.cells #[.int .u64 (y1.cid : Int), .slice y1.X y1.ls.length y1.c] 38)) := by
  obtain ⟨b1, b2, h1, h2, h3, h4, h5, h6, h7⟩ := (h.alloc (.cells #[.int .u64 (y2.cid : Int), .slice y2.X y2.ls.length y2.c] 38)).alloc (.cells #[.int .u64 (y1.cid : Int), .slice y1.X y1.ls.length y1.c] 38)
  have hz := hb.size
  exact ⟨W.heap.size + 1, W.heap.size, b1, b2, y1, y2, rfl, rfl, h1, h2, Blk.newAt _ y1.cells _ (by simp), (Blk.new W y2.cells _).alloc _, by omega, by omega, hz, h3, h4, h5, h6, h7, (hb.alloc hz _).alloc (by simp; omega) _⟩
theorem Both.box {wd W : World} {a y1 y2 : CardM} (h : Both wd a y1 y2 W) {g : Nat} {cs : List Value} (hk : Blk W g cs 38) (j : Nat) (u : Value) : Both wd a y1 y2 (W.setCell ⟨g, j, none⟩ u) := by
  obtain ⟨b1, b2, h1, h2, h3, h4, h5, h6, h7⟩ := h
  exact ⟨b1, b2, h1, h2, h3.box hk j u, h4, h5.box hk j u, h6, h7⟩
/-- one of them ahead, the other one behind -/
theorem pair_one {wd W : World} {a y1 y2 : CardM} {gc : Nat} {u0 u1 : Value} (kc : Blk W gc [u0, u1] 38) (hgc : wd.heap.size ≤ gc) (h : Both wd a y1 y2 W) (hb : Below wd.heap.size wd W) :
    PairRel wd a (.pointer (some ⟨gc, 0, none⟩)) (.pointer (some ⟨W.heap.size, 0, none⟩)) (((W.setCell ⟨gc, 0, none⟩ (.int .u64 (y1.cid : Int))).setCell ⟨gc, 1, none⟩ (.slice y1.X y1.ls.length y1.c)).alloc (.cells #[.int .u64 (y2.cid : Int), .slice y2.X y2.ls.length y2.c] 38)) := by
  obtain ⟨b1, b2, h1, h2, h3, h4, h5, h6, h7⟩ := ((h.box kc 0 (.int .u64 (y1.cid : Int))).box (kc.set 0 (.int .u64 (y1.cid : Int))) 1 (.slice y1.X y1.ls.length y1.c)).alloc (.cells #[.int .u64 (y2.cid : Int), .slice y2.X y2.ls.length y2.c] 38)
  have hz := hb.size
  have hlt := kc.lt
  have kc2 : Blk _ gc y1.cells 38 := kc.set2 (v0 := .int .u64 (y1.cid : Int)) (v1 := .slice y1.X y1.ls.length y1.c)
  have hb2 := below_set2 hb hgc (.int .u64 (y1.cid : Int)) (.slice y1.X y1.ls.length y1.c)
  exact ⟨gc, W.heap.size, b1, b2, y1, y2, rfl, rfl, h1, h2, kc2.alloc _, Blk.newAt _ y2.cells _ (by simp), by omega, hgc, hz, h3, h4, h5, h6, h7, hb2.alloc hb2.size _⟩
theorem pair_two {wd W : World} {a y1 y2 : CardM} {gd : Nat} {u0 u1 : Value} (kd : Blk W gd [u0, u1] 38) (hgd : wd.heap.size ≤ gd) (h : Both wd a y1 y2 W) (hb : Below wd.heap.size wd W) :
    PairRel wd a (.pointer (some ⟨W.heap.size, 0, none⟩)) (.pointer (some ⟨gd, 0, none⟩)) (((W.setCell ⟨gd, 0, none⟩ (.int .u64 (y2.cid : Int))).setCell ⟨gd, 1, none⟩ (.slice y2.X y2.ls.length y2.c)).alloc (.cells #[.int .u64 (y1.cid : Int), .slice y1.X y1.ls.length y1.c] 38)) := by
  obtain ⟨b1, b2, h1, h2, h3, h4, h5, h6, h7⟩ := ((h.box kd 0 (.int .u64 (y2.cid : Int))).box (kd.set 0 (.int .u64 (y2.cid : Int))) 1 (.slice y2.X y2.ls.length y2.c)).alloc (.cells #[.int .u64 (y1.cid : Int), .slice y1.X y1.ls.length y1.c] 38)
  have hz := hb.size
  have hlt := kd.lt
  have kd2 : Blk _ gd y2.cells 38 := kd.set2 (v0 := .int .u64 (y2.cid : Int)) (v1 := .slice y2.X y2.ls.length y2.c)
  have hb2 := below_set2 hb hgd (.int .u64 (y2.cid : Int)) (.slice y2.X y2.ls.length y2.c)
  exact ⟨W.heap.size, gd, b1, b2, y1, y2, rfl, rfl, h1, h2, Blk.newAt _ y1.cells _ (by simp), kd2.alloc _, by omega, hz, hgd, h3, h4, h5, h6, h7, hb2.alloc hb2.size _⟩
set_option maxRecDepth 100000 in
set_option maxHeartbeats 8000000 in
theorem same_law (a b : CardM) (w : World) (ha : a.Ok w w.heap.size) (hb : b.Ok w w.heap.size) (hsz : ∀ z ∈ a.ls, z.t.size ≤ 140737488355328) :
    Calls Try.prog 6 #[a.val, b.val] w fun e w' => e = .returned (.bool true) ∧ Below w.heap.size w w' := by
  have hb0 : Below w.heap.size w ((w.alloc (.cells #[.int .u64 (a.cid : Int), .slice a.X a.ls.length a.c] 38)).alloc (.cells #[.int .u64 (b.cid : Int), .slice b.X b.ls.length b.c] 38)) := ((Below.refl _ _).alloc (Nat.le_refl _) _).alloc (by simp) _
  have ka : Blk ((w.alloc (.cells #[.int .u64 (a.cid : Int), .slice a.X a.ls.length a.c] 38)).alloc (.cells #[.int .u64 (b.cid : Int), .slice b.X b.ls.length b.c] 38)) w.heap.size a.cells 38 := (Blk.new w a.cells _).alloc _
  have kb : Blk ((w.alloc (.cells #[.int .u64 (a.cid : Int), .slice a.X a.ls.length a.c] 38)).alloc (.cells #[.int .u64 (b.cid : Int), .slice b.X b.ls.length b.c] 38)) (w.heap.size + 1) b.cells 38 := Blk.newAt _ b.cells _ (by simp)
  unfold CardM.val
  go_enter Try.func6, Try.ntmps6
  go_upto_region 1 with fail
  obtain ⟨w1, hw1⟩ : ∃ w1, (w.alloc (.cells #[.int .u64 (a.cid : Int), .slice a.X a.ls.length a.c] 38)).alloc (.cells #[.int .u64 (b.cid : Int), .slice b.X b.ls.length b.c] 38) = w1 := ⟨_, rfl⟩
  rw [hw1] at hb0 ka kb ⊢
  clear hw1
  have ca0 := ka.cell (j := 0) rfl
  have ca1 := ka.cell (j := 1) rfl
  have cb0 := kb.cell (j := 0) rfl
  have cb1 := kb.cell (j := 1) rfl
  have la := ka.lt
  have lb := kb.lt
  go_cut [5, 6] (fun p q wr => ∃ gl gm : Nat, p = .slice (some ⟨gl, 0, none⟩) 2 2 ∧ q = .slice (some ⟨gm, 0, none⟩) 2 2 ∧ Blk wr gl (CB [a, b]) 38 ∧ Blk wr gm (CB [b, a]) 38 ∧ Below w1.heap.size w1 wr)
  case first =>
    go_region
    all_goals (go_wp2_with fail; go_meet)
    all_goals first
      | exact ⟨_, _, rfl, rfl, ((Blk.new w1 (CB [a, b]) _).alloc _).drew, (Blk.newAt _ (CB [b, a]) _ (by simp)).drew, (((Below.refl _ _).alloc (Nat.le_refl _) _).alloc (by simp) _).drew⟩
      | exact ⟨_, _, rfl, rfl, (Blk.newAt _ (CB [a, b]) _ (by simp)).drew, ((Blk.new w1 (CB [b, a]) _).alloc _).drew, (((Below.refl _ _).alloc (Nat.le_refl _) _).alloc (by simp) _).drew⟩
  case rest =>
    obtain ⟨gl, gm, rfl, rfl, kl, km, hbc⟩ := hcut
    obtain ⟨wb, rfl⟩ : ∃ wb : World, wb = wc := ⟨_, rfl⟩
    have ka := ka.next hbc
    have kb := kb.next hbc
    have hbw := hb0.trans (hbc.mono hb0.size)
    have la : w.heap.size < wb.heap.size := ka.lt
    have lb : w.heap.size + 1 < wb.heap.size := kb.lt
    clear ca0 ca1 cb0 cb1 hbc hb0
    have hda : ∀ W, Below wb.heap.size wb W → a.Ok W W.heap.size := fun W h => ha.next (hbw.trans (h.mono hbw.size))
    have hdb : ∀ W, Below wb.heap.size wb W → b.Ok W W.heap.size := fun W h => hb.next (hbw.trans (h.mono hbw.size))
    have hrl : ∀ W, Below wb.heap.size wb W → RdCards W W.heap.size (some ⟨gl, 0, none⟩) [a, b] := fun W h => rd_cards (kl.next h) (fun x hx => by
      simp only [List.mem_cons, List.not_mem_nil, or_false] at hx
      rcases hx with rfl | rfl
      · exact hda W h
      · exact hdb W h)
    have hrm : ∀ W, Below wb.heap.size wb W → RdCards W W.heap.size (some ⟨gm, 0, none⟩) [b, a] := fun W h => rd_cards (km.next h) (fun x hx => by
      simp only [List.mem_cons, List.not_mem_nil, or_false] at hx
      rcases hx with rfl | rfl
      · exact hdb W h
      · exact hda W h)
    have hr1 : ∀ W, Below wb.heap.size wb W → RdCards W W.heap.size (some ⟨gl, 0, none⟩) [a] := fun W h => ⟨by
      have h1 := (hrl W h).1.take 2
      exact h1, fun x hx => by
      rcases List.mem_singleton.1 hx with rfl
      exact hda W h⟩
    obtain ⟨s, hs⟩ : ∃ s, decide (a.p = b.p) = s := ⟨_, rfl⟩
    obtain ⟨t, ht⟩ : ∃ t, decide ([a, b].map CardM.p = [b, a].map CardM.p) = t := ⟨_, rfl⟩
    have C36 := kept (fun W h => same_any a b W (hda W h) (hdb W h))
    have C37 := kept (fun W h => rsame_any a b W (hda W h) (hdb W h))
    have C38 := kept (fun W h => all_any (some ⟨gl, 0, none⟩) (some ⟨gm, 0, none⟩) 2 2 2 2 [a, b] [b, a] W rfl rfl (hrl W h) (hrm W h) (by simp))
    have C39 := kept (fun W h => rall_any (some ⟨gl, 0, none⟩) (some ⟨gm, 0, none⟩) 2 2 2 2 [a, b] [b, a] W rfl rfl (hrl W h) (hrm W h) (by simp))
    have C38l := kept (fun W h => all_any (some ⟨gl, 0, none⟩) (some ⟨gl, 0, none⟩) 2 2 2 2 [a, b] [a, b] W rfl rfl (hrl W h) (hrl W h) (by simp))
    have C38s := kept (fun W h => all_any (some ⟨gl, 0, none⟩) (some ⟨gl, 0, none⟩) 2 1 2 2 [a, b] [a] W rfl rfl (hrl W h) (hr1 W h) (by simp))
    rw [hs] at C36 C37
    rw [ht] at C38 C39
    rw [decide_eq_true rfl] at C38l
    rw [decide_eq_false (by intro e; have := congrArg List.length e; simp at this)] at C38s
    have HS : Kept (∀ W, Below wb.heap.size wb W → W.cell? ⟨w.heap.size, 0, none⟩ = some (.int .u64 (a.cid : Int)) ∧ W.cell? ⟨w.heap.size, 1, none⟩ = some (.slice a.X a.ls.length a.c) ∧ W.cell? ⟨w.heap.size + 1, 0, none⟩ = some (.int .u64 (b.cid : Int)) ∧ W.cell? ⟨w.heap.size + 1, 1, none⟩ = some (.slice b.X b.ls.length b.c)) :=
      ⟨fun W h => ⟨(ka.next h).cell (j := 0) rfl, (ka.next h).cell (j := 1) rfl, (kb.next h).cell (j := 0) rfl, (kb.next h).cell (j := 1) rfl⟩⟩
    have hbd : Below wb.heap.size wb wb.drew := (Below.refl _ _).drew
    clear hs ht hrl hrm hr1 hda hdb
    unfold CardM.val at C36 C37
    go_upto_region 2 with fail
    go_cut [51] (fun p wr => p = .bool false ∧ Below wb.heap.size wb wr)
    case first =>
      go_region_held3 (fun W => W.cell? ⟨w.heap.size, 0, none⟩ = some (.int .u64 (a.cid : Int)) ∧ W.cell? ⟨w.heap.size, 1, none⟩ = some (.slice a.X a.ls.length a.c) ∧ W.cell? ⟨w.heap.size + 1, 0, none⟩ = some (.int .u64 (b.cid : Int)) ∧ W.cell? ⟨w.heap.size + 1, 1, none⟩ = some (.slice b.X b.ls.length b.c)) (exact HS.out _ (by assumption)) (first
        | (go_at_call 36; ((with_reducible refine (C36.out _ (by assumption)).mono ?_); rintro e x1 ⟨rfl, hx1⟩; have hk1 : Below wb.heap.size wb x1 := below_next (by assumption) hx1))
        | (go_at_call 37; ((with_reducible refine (C37.out _ (by assumption)).mono ?_); rintro e x2 ⟨rfl, hx2⟩; have hk2 : Below wb.heap.size wb x2 := below_next (by assumption) hx2))
        | (go_at_call_of 38 (Value.slice (some ⟨gm, 0, none⟩) 2 2); ((with_reducible refine (C38.out _ (by assumption)).mono ?_); rintro e x3 ⟨rfl, hx3⟩; have hk3 : Below wb.heap.size wb x3 := below_next (by assumption) hx3))
        | (go_at_call 39; ((with_reducible refine (C39.out _ (by assumption)).mono ?_); rintro e x4 ⟨rfl, hx4⟩; have hk4 : Below wb.heap.size wb x4 := below_next (by assumption) hx4))
        | (go_at_call_of 38 (Value.slice (some ⟨gl, 0, none⟩) 1 2); ((with_reducible refine (C38s.out _ (by assumption)).mono ?_); rintro e x6 ⟨rfl, hx6⟩; have hk6 : Below wb.heap.size wb x6 := below_next (by assumption) hx6))
        | (go_at_call 38; ((with_reducible refine (C38l.out _ (by assumption)).mono ?_); rintro e x5 ⟨rfl, hx5⟩; have hk5 : Below wb.heap.size wb x5 := below_next (by assumption) hx5)))
      all_goals (go_wp2_with fail; go_meet)
      all_goals exact ⟨rfl, by assumption⟩
    case rest =>
      obtain ⟨rfl, hcd⟩ := hcut
      obtain ⟨wd, rfl⟩ : ∃ wd : World, wd = wc := ⟨_, rfl⟩
      have ka := ka.next hcd
      have hbw := hbw.trans (hcd.mono hbw.size)
      have la : w.heap.size < wd.heap.size := ka.lt
      clear C36 C37 C38 C39 C38l C38s HS kb kl km hcd hbd lb
      have CP := kept (fun (W : World) (h : Below wd.heap.size wd W) => copy_any a W (ha.next (hbw.trans (h.mono hbw.size))))
      unfold CardM.val at CP
      have HS : Kept (∀ W, Below wd.heap.size wd W → W.cell? ⟨w.heap.size, 0, none⟩ = some (.int .u64 (a.cid : Int)) ∧ W.cell? ⟨w.heap.size, 1, none⟩ = some (.slice a.X a.ls.length a.c)) :=
        ⟨fun W h => ⟨(ka.next h).cell (j := 0) rfl, (ka.next h).cell (j := 1) rfl⟩⟩
      have hbd : Below wd.heap.size wd wd.drew := (Below.refl _ _).drew
      have tok1 : True := trivial
      go_upto_region 4 with fail
      go_cut [7, 8] (fun p q wr => PairRel wd a p q wr)
      case first =>
        go_region_held3 (fun W => W.cell? ⟨w.heap.size, 0, none⟩ = some (.int .u64 (a.cid : Int)) ∧ W.cell? ⟨w.heap.size, 1, none⟩ = some (.slice a.X a.ls.length a.c)) (exact HS.out _ (by (repeat (first | with_reducible assumption | with_reducible exact Below.refl _ _ | with_reducible refine below_new ?_ _ | with_reducible refine Below.drew ?_ | (((with_reducible refine below_set ?_ ?_ _) <;> (try (first | omega | (simp; done) | (simp; omega))))))))) (first
          | (go_at_call 40; have _t := tok1; ((with_reducible refine (CP.out _ (by (repeat (first | with_reducible assumption | with_reducible exact Below.refl _ _ | with_reducible refine below_new ?_ _ | with_reducible refine Below.drew ?_ | (((with_reducible refine below_set ?_ ?_ _) <;> (try (first | omega | (simp; done) | (simp; omega))))))))).mono ?_); rintro e x1 ⟨y1, rfl, hp1, hf1, hx1⟩; have hk1 : Below wd.heap.size wd x1 := below_next (by (repeat (first | with_reducible assumption | with_reducible exact Below.refl _ _ | with_reducible refine below_new ?_ _ | with_reducible refine Below.drew ?_ | (((with_reducible refine below_set ?_ ?_ _) <;> (try (first | omega | (simp; done) | (simp; omega)))))))) hx1; have hz1 := hk1.size; (try ((refine have kA : Blk x1 wd.heap.size [.int .u64 0, .slice none 0 0] 38 := ?_; ?_); (focus ((with_reducible refine Blk.next ?_ hx1); (repeat (first | with_reducible assumption | (((with_reducible refine Blk.newAt _ _ _ ?_) <;> simp); done) | with_reducible refine Blk.drew ?_ | with_reducible refine Blk.alloc ?_ _)); done)); have kAc0 := kA.cell (j := 0) rfl; have kAc1 := kA.cell (j := 1) rfl; have kAf0 := kA.frozen 0; have kAf1 := kA.frozen 1; have kAl := kA.lt)); (try ((refine have kB : Blk x1 (wd.heap.size + 1) [.int .u64 0, .slice none 0 0] 38 := ?_; ?_); (focus ((with_reducible refine Blk.next ?_ hx1); (repeat (first | with_reducible assumption | (((with_reducible refine Blk.newAt _ _ _ ?_) <;> simp); done) | with_reducible refine Blk.drew ?_ | with_reducible refine Blk.alloc ?_ _)); done)); have kBc0 := kB.cell (j := 0) rfl; have kBc1 := kB.cell (j := 1) rfl; have kBf0 := kB.frozen 0; have kBf1 := kB.frozen 1; have kBl := kB.lt)); have hF1 : Kept (∃ b1, wd.heap.size ≤ b1 ∧ y1.Fresh x1 b1) := ⟨_, by first | exact Nat.le_refl _ | (simp; omega) | simp, hf1⟩; have hP1 := kept hp1; unfold CardM.val; clear tok1 hp1 hf1))
          | (go_at_call 40; ((with_reducible refine (CP.out _ (by (repeat (first | with_reducible assumption | with_reducible exact Below.refl _ _ | with_reducible refine below_new ?_ _ | with_reducible refine Below.drew ?_ | (((with_reducible refine below_set ?_ ?_ _) <;> (try (first | omega | (simp; done) | (simp; omega))))))))).mono ?_); rintro e x2 ⟨y2, rfl, hp2, hf2, hx2⟩; have hk2 : Below wd.heap.size wd x2 := below_next (by (repeat (first | with_reducible assumption | with_reducible exact Below.refl _ _ | with_reducible refine below_new ?_ _ | with_reducible refine Below.drew ?_ | (((with_reducible refine below_set ?_ ?_ _) <;> (try (first | omega | (simp; done) | (simp; omega)))))))) hx2; have hz2 := hk2.size; (try ((refine have kA2 : Blk x2 wd.heap.size [.int .u64 0, .slice none 0 0] 38 := ?_; ?_); (focus ((with_reducible refine Blk.next ?_ hx2); (repeat (first | with_reducible assumption | (((with_reducible refine Blk.newAt _ _ _ ?_) <;> simp); done) | with_reducible refine Blk.drew ?_ | with_reducible refine Blk.alloc ?_ _)); done)); have kA2c0 := kA2.cell (j := 0) rfl; have kA2c1 := kA2.cell (j := 1) rfl; have kA2f0 := kA2.frozen 0; have kA2f1 := kA2.frozen 1; have kA2l := kA2.lt)); (try ((refine have kB2 : Blk x2 (wd.heap.size + 1) [.int .u64 0, .slice none 0 0] 38 := ?_; ?_); (focus ((with_reducible refine Blk.next ?_ hx2); (repeat (first | with_reducible assumption | (((with_reducible refine Blk.newAt _ _ _ ?_) <;> simp); done) | with_reducible refine Blk.drew ?_ | with_reducible refine Blk.alloc ?_ _)); done)); have kB2c0 := kB2.cell (j := 0) rfl; have kB2c1 := kB2.cell (j := 1) rfl; have kB2f0 := kB2.frozen 0; have kB2f1 := kB2.frozen 1; have kB2l := kB2.lt)); (try ((refine have kC2 : Blk x2 x1.heap.size [.int .u64 0, .slice none 0 0] 38 := ?_; ?_); (focus ((with_reducible refine Blk.next ?_ hx2); (repeat (first | with_reducible assumption | (((with_reducible refine Blk.newAt _ _ _ ?_) <;> simp); done) | with_reducible refine Blk.drew ?_ | with_reducible refine Blk.alloc ?_ _)); done)); have kC2c0 := kC2.cell (j := 0) rfl; have kC2c1 := kC2.cell (j := 1) rfl; have kC2f0 := kC2.frozen 0; have kC2f1 := kC2.frozen 1; have kC2l := kC2.lt)); (try ((refine have kD2 : Blk x2 (x1.heap.size + 1) [.int .u64 0, .slice none 0 0] 38 := ?_; ?_); (focus ((with_reducible refine Blk.next ?_ hx2); (repeat (first | with_reducible assumption | (((with_reducible refine Blk.newAt _ _ _ ?_) <;> simp); done) | with_reducible refine Blk.drew ?_ | with_reducible refine Blk.alloc ?_ _)); done)); have kD2c0 := kD2.cell (j := 0) rfl; have kD2c1 := kD2.cell (j := 1) rfl; have kD2f0 := kD2.frozen 0; have kD2f1 := kD2.frozen 1; have kD2l := kD2.lt)); have hP2 := kept hp2; have hQ := both_mk (x1 := x1) hF1.out hP1 hP2 (by repeat (first | with_reducible exact Below.refl _ _ | with_reducible refine below_new ?_ _)) hf2 hx2 hk1.size; have HQ := kept hQ; unfold CardM.val; clear hp2 hf2 hQ)))
        all_goals (go_wp2_with fail; go_meet)
        all_goals first
          | with_reducible exact pair_new HQ.out hk2
          | with_reducible exact pair_new2 HQ.out hk2
          | ((with_reducible refine pair_one (u0 := .int .u64 0) (u1 := .slice none 0 0) ?_ ?_ HQ.out hk2) <;> (first | with_reducible assumption | omega); done)
          | ((with_reducible refine pair_two (u0 := .int .u64 0) (u1 := .slice none 0 0) ?_ ?_ HQ.out hk2) <;> (first | with_reducible assumption | omega); done)
          | ((with_reducible refine pair_end (u0 := .int .u64 0) (u1 := .slice none 0 0) (v0 := .int .u64 0) (v1 := .slice none 0 0) ?_ ?_ ?_ ?_ ?_ HQ.out hk2) <;> (first | with_reducible assumption | omega); done)
      case rest =>
        obtain ⟨gc, gd, base1, base2, y1, y2, rfl, rfl, hp1, hp2, kc, kd, hne, hgc, hgd, f1, hu, f2, hl1, hl2, hbe⟩ := hcut
        obtain ⟨we, rfl⟩ : ∃ we : World, we = wc := ⟨_, rfl⟩
        have hW0 := Wr.start kc kd f1 hu f2 hbe hl2
        have hsz2 := size_p hp2.out hsz
        have hn2 := f2.2.2.1
        clear f1 hu f2 hl1 CP HS tok1 hbd kc hbe
        obtain ⟨cid2, X2, ls2, c2⟩ := y2
        dsimp only at *
        have hd1 := kd.cell (j := 1) rfl
        clear kd
        go_wp2
        go_loopw [59] (fun i wr => ∃ (k : Nat) (ys : List LineM), k ≤ ls2.length ∧ i = .int .i64 (k : Int) ∧ (∀ z ∈ ys, z.t.size ≤ 140737488355328 + k) ∧ Wr wd y1 ⟨cid2, X2, ls2, c2⟩ gc gd base1 base2 ys wr) (fun i _ => ls2.length - (intOf i).toNat)
        case atStart => exact ⟨0, ls2, Nat.zero_le _, rfl, hsz2, hW0⟩
        case round =>
          obtain ⟨k, ys, hk, rfl, hzs, hW⟩ := hrel
          clear hW0 hd1 hsz2
          by_cases hlt : k < ls2.length
          · obtain ⟨z, hz⟩ : ∃ z, ys[k]? = some z := ⟨_, List.getElem?_eq_getElem (by rw [hW.len]; exact hlt)⟩
            have hzt := hzs z (List.mem_of_getElem? hz)
            obtain ⟨g, hX, hg1, hg2, hc1, hf1, _⟩ := hW.own.spot (j := 1) hz rfl
            obtain rfl := hX
            rw [show lineE.k = 3 from rfl] at hc1 hf1
            have hd1 := hW.kd.cell (j := 1) rfl
            have hgd : gd < wr.heap.size := hW.kd.lt
            have hkn : (k : Int) < (ls2.length : Int) := by omega
            have HW := kept hW
            have HZ := kept hz
            have HS := kept hzs
            clear hW hz hzs
            go_upto_region 8 with fail
            go_cut [] (fun wx => ∃ t : ByteArray, t.size ≤ z.t.size + 1 ∧ Wr wd y1 ⟨cid2, some ⟨g, 0, none⟩, ls2, c2⟩ gc gd base1 base2 (ys.set k ⟨z.f, t, z.A, z.m, z.c⟩) wx)
            case first =>
              go_region
              all_goals (go_wp2_with fail; go_meet)
              all_goals exact ⟨_, by (simp [ByteArray.size_append]; first | done | decide | rfl), HW.out.drew.text HZ.out rfl _⟩
            case rest =>
              obtain ⟨t, ht, hW⟩ := hcut
              obtain ⟨wf, rfl⟩ : ∃ wf : World, wf = wc := ⟨_, rfl⟩
              have hlen := HW.out.len
              have hz2 : (ys.set k ⟨z.f, t, z.A, z.m, z.c⟩)[k]? = some ⟨z.f, t, z.A, z.m, z.c⟩ := by rw [List.getElem?_set_self (by rw [hlen]; exact hlt)]
              have hst2 : ∀ y ∈ ys.set k ⟨z.f, t, z.A, z.m, z.c⟩, y.t.size ≤ 140737488355328 + (k + 1) := by
                intro y hy
                rcases List.mem_or_eq_of_mem_set hy with h1 | rfl
                · have := HS.out y h1; omega
                · show t.size ≤ _; omega
              have HS2 := kept hst2
              generalize ys.set k ⟨z.f, t, z.A, z.m, z.c⟩ = ys2 at *
              obtain ⟨zf, zt, zA, zm, zc⟩ := z
              dsimp only at *
              obtain ⟨g', hX, hg1', hg2', hc2, hf2, _⟩ := hW.own.spot (j := 2) hz2 rfl
              obtain rfl : g' = g := (congrArg Addr.block (Option.some.inj hX)).symm
              rw [show lineE.k = 3 from rfl] at hc2 hf2
              have hml : zm.length ≤ 8796093022208 := (hW.more _ (List.mem_of_getElem? hz2)).2
              have hd1 := hW.kd.cell (j := 1) rfl
              have HW2 := kept hW
              have HZ2 := kept hz2
              clear hW hz2 HW HZ hst2 hlen hc1 hf1 hX HS ht hzt
              go_wp2
              go_loopw [81] (fun jv wr => ∃ j : Nat, j ≤ zm.length ∧ jv = .int .i64 (j : Int) ∧ Wr wd y1 ⟨cid2, some ⟨g', 0, none⟩, ls2, c2⟩ gc gd base1 base2 ys2 wr) (fun jv _ => zm.length - (intOf jv).toNat)
              case atStart => exact ⟨0, Nat.zero_le _, rfl, HW2.out⟩
              case round =>
                obtain ⟨j, hj, rfl, hW⟩ := hrel
                clear hd1 hc2 hf2
                by_cases hjl : j < zm.length
                · obtain ⟨g2, cur, u, hA, hg22, hcur, hu2, hfz⟩ := (hW.more _ (List.mem_of_getElem? HZ2.out)).1.spot hjl
                  dsimp only at hA
                  obtain rfl := hA
                  obtain ⟨g3, hX, hg13, hg23, hc3, hf3, _⟩ := hW.own.spot (j := 2) HZ2.out rfl
                  obtain rfl : g3 = g' := (congrArg Addr.block (Option.some.inj hX)).symm
                  rw [show lineE.k = 3 from rfl] at hc3 hf3
                  have hd1 := hW.kd.cell (j := 1) rfl
                  have HO := kept (fun v => hW.other (j := j) hg22 hcur v)
                  have hjn : (j : Int) < (zm.length : Int) := by omega
                  clear hW hcur hX
                  go_wp2
                  go_roundw
                  case rel => exact ⟨j + 1, by omega, by go_num, HO.out _⟩
                  case measure => simp [intOf]; omega
                · have HW3 := kept hW
                  clear hW
                  go_wp2
                  go_roundw
                  case rel => exact ⟨k + 1, ys2, by omega, by go_num, HS2.out, HW3.out⟩
                  case measure => simp [intOf]; omega
          · obtain ⟨wh, rfl⟩ : ∃ wh : World, wh = wr := ⟨_, rfl⟩
            have kah := ka.next hW.below
            have kch := hW.kc
            have fch := hW.fresh
            have hbh := hbw.trans (hW.below.mono hbw.size)
            obtain ⟨v, mm, hmm, LA, RC, LC, RS⟩ := end_facts fch (ha.next hbh) hp1.out
            have KA : Kept (∀ W, Below wh.heap.size wh W → W.cell? ⟨w.heap.size, 0, none⟩ = some (.int .u64 (a.cid : Int)) ∧ W.cell? ⟨w.heap.size, 1, none⟩ = some (.slice a.X a.ls.length a.c)) := ⟨fun W h => ⟨(kah.next h).cell (j := 0) rfl, (kah.next h).cell (j := 1) rfl⟩⟩
            have KC : Kept (∀ W, Below wh.heap.size wh W → W.cell? ⟨gc, 0, none⟩ = some (.int .u64 (y1.cid : Int)) ∧ W.cell? ⟨gc, 1, none⟩ = some (.slice y1.X y1.ls.length y1.c)) := ⟨fun W h => ⟨(kch.next h).cell (j := 0) rfl, (kch.next h).cell (j := 1) rfl⟩⟩
            have hgcl : gc < wh.heap.size := kch.lt
            have hal : w.heap.size < wh.heap.size := kah.lt
            have LA1 := kept (LA.out wh (Below.refl _ _))
            have HBH := kept hbh
            clear hW kah kch fch hzs hbh LA ka kb la lb hbw
            obtain ⟨a0, a1⟩ := KA.out wh (Below.refl _ _)
            go_wp2_with fail
            refine LA1.out.mono ?_
            rintro e w3 ⟨xf, xt, xA, n, xc, rfl, hn, hsx, hx3⟩
            have kx := Blk.new w3 [.int .u8 (xf : Int), .string xt, .slice xA n xc] 45
            have hb3 := below_new hx3 (.cells #[.int .u8 (xf : Int), .string xt, .slice xA n xc] 45)
            have hs3 := hsx.below ((Below.refl w3.heap.size w3).alloc (Nat.le_refl _) (.cells #[.int .u8 (xf : Int), .string xt, .slice xA n xc] 45)) (Nat.le_refl _)
            have hz3 := hx3.size
            have cx2 := kx.cell (j := 2) rfl
            have HB3 := kept hb3
            have HS3 := kept hs3
            have KX := kept kx
            clear hx3 hsx hb3 hs3 kx a0 a1
            go_wp2
            go_loopw [102] (fun jv wr => ∃ j : Nat, j ≤ n ∧ jv = .int .i64 (j : Int) ∧ Blk wr w3.heap.size [.int .u8 (xf : Int), .string xt, .slice xA n xc] 45 ∧ StrB wr wh.heap.size xA n ∧ Below wh.heap.size wh wr) (fun jv _ => n - (intOf jv).toNat)
            case atStart => exact ⟨0, Nat.zero_le _, rfl, KX.out, HS3.out, HB3.out⟩
            case round =>
              obtain ⟨j, hj, rfl, kx, hs, hb⟩ := hrel
              clear cx2
              by_cases hjl : j < n
              · obtain ⟨g2, cur, u, hA, hg2, hcur, hu2, hfz⟩ := hs.spot hjl
                obtain rfl := hA
                have cx2 := kx.cell (j := 2) rfl
                have HO := kept (fun v => (⟨kx.other (p := ⟨g2, j, none⟩) (blk_apart kx hcur (by decide)) v, hs.set ⟨g2, j, none⟩ v, hb.setCell (p := ⟨g2, j, none⟩) hg2 v⟩ : _ ∧ _ ∧ _))
                have hjn : (j : Int) < (n : Int) := by omega
                clear kx hs hb hcur
                go_wp2
                go_roundw
                case rel => exact ⟨j + 1, by omega, by go_num, HO.out _⟩
                case measure => simp [intOf]; omega
              · have hz0 := hb.size
                obtain ⟨c0, c1⟩ := KC.out wr hb
                have HBr := kept hb
                clear hb hs kx
                go_wp2_with fail
                refine (RC.out _ HBr.out).mono ?_
                rintro e w4 ⟨yf, yt, yA, yc, rfl, hr4, hx4⟩
                have hb4 := below_next HBr.out hx4
                have hb5 := below_new hb4 (.cells #[.int .u8 (yf : Int), .string yt, .slice yA mm.length yc] 45)
                have ky := Blk.new w4 [.int .u8 (yf : Int), .string yt, .slice yA mm.length yc] 45
                have hr5 := hr4.next ((Below.refl w4.heap.size w4).alloc (Nat.le_refl _) (.cells #[.int .u8 (yf : Int), .string yt, .slice yA mm.length yc] 45))
                have hz4 := hb4.size
                obtain ⟨c0, c1⟩ := KC.out _ hb5
                have HB5 := kept hb5
                have HR5 := kept hr5
                have KY := kept ky
                clear hx4 hb4 hb5 ky hr4 hr5
                go_wp2_with fail
                refine (LC.out _ HB5.out).mono ?_
                rintro e w6 ⟨zf, zt, zA, zc, rfl, hr6, hx6⟩
                have hb6 := below_next HB5.out hx6
                have hb7 := below_new hb6 (.cells #[.int .u8 (zf : Int), .string zt, .slice zA mm.length zc] 45)
                have kz := Blk.new w6 [.int .u8 (zf : Int), .string zt, .slice zA mm.length zc] 45
                have hr7 := hr6.next ((Below.refl w6.heap.size w6).alloc (Nat.le_refl _) (.cells #[.int .u8 (zf : Int), .string zt, .slice zA mm.length zc] 45))
                have hry := (HR5.out.next hx6).next ((Below.refl w6.heap.size w6).alloc (Nat.le_refl _) (.cells #[.int .u8 (zf : Int), .string zt, .slice zA mm.length zc] 45))
                have ky7 := (KY.out.next hx6).alloc (.cells #[.int .u8 (zf : Int), .string zt, .slice zA mm.length zc] 45)
                have hz6 := hb6.size
                go_upto_region 23 with fail
                obtain ⟨wz, hwz⟩ : ∃ wz, w6.alloc (.cells #[.int .u8 (zf : Int), .string zt, .slice zA mm.length zc] 45) = wz := ⟨_, rfl⟩
                have hz7 : wz.heap.size = w6.heap.size + 1 := by rw [← hwz]; simp
                rw [hwz] at hb7 hr7 hry ky7 kz ⊢
                clear hwz hr6 hx6 hb6
                obtain ⟨c0, c1⟩ := KC.out _ hb7
                obtain ⟨a0, a1⟩ := KA.out _ hb7
                have y2 := ky7.cell (j := 2) rfl
                have z2 := kz.cell (j := 2) rfl
                have ly := ky7.lt
                have lz := kz.lt
                have RSZ := kept (fun (W : World) (h : Below wz.heap.size wz W) => RS.out W (hb7.trans (h.mono hb7.size)))
                have TX := kept (fun (W : World) (h : Below wz.heap.size wz W) => texts_any W.heap.size W.heap.size yA zA mm.length mm.length yc zc mm mm W rfl rfl (hry.next h) (hr7.next h) (by omega))
                have KK : Kept (∀ W, Below wz.heap.size wz W → W.cell? ⟨gc, 0, none⟩ = some (.int .u64 (y1.cid : Int)) ∧ W.cell? ⟨gc, 1, none⟩ = some (.slice y1.X y1.ls.length y1.c) ∧ W.cell? ⟨w.heap.size, 0, none⟩ = some (.int .u64 (a.cid : Int)) ∧ W.cell? ⟨w.heap.size, 1, none⟩ = some (.slice a.X a.ls.length a.c) ∧ W.cell? ⟨w4.heap.size, 2, none⟩ = some (.slice yA mm.length yc) ∧ W.cell? ⟨w6.heap.size, 2, none⟩ = some (.slice zA mm.length zc)) := ⟨fun W h => ⟨(KC.out _ (hb7.trans (h.mono hb7.size))).1, (KC.out _ (hb7.trans (h.mono hb7.size))).2, (KA.out _ (hb7.trans (h.mono hb7.size))).1, (KA.out _ (hb7.trans (h.mono hb7.size))).2, (ky7.next h).cell (j := 2) rfl, (kz.next h).cell (j := 2) rfl⟩⟩
                rw [decide_eq_true rfl] at TX
                have HB7 := kept hb7
                clear hb7 hr7 hry ky7 kz
                go_wp2_with fail
                refine (RSZ.out _ (Below.refl _ _)).mono ?_
                rintro e w8 ⟨rfl, hx8⟩
                have hz8 := hx8.size
                obtain ⟨c0, c1, a0, a1, y2, z2⟩ := KK.out _ hx8
                have H8 := kept hx8
                clear hx8
                go_wp2_with fail
                refine (TX.out _ H8.out).mono ?_
                rintro e _ ⟨rfl, q, rfl⟩
                go_wp2_with fail
                refine (works_any _).mono ?_
                rintro e w9 ⟨rfl, hx9⟩
                have h9 : Below w8.heap.size w8 w9 := below_next (below_draw _ w8 q) hx9
                go_wp2_with fail
                go_ret
                exact ⟨rfl, below_next (below_next (below_next HBH.out HB7.out) H8.out) h9⟩
end Go.Proofs.Ytijdkbejlaebhaa.Card
