/- Layer 19 (view): the keys of a map of fields, collected and sorted. -/
import Derived.Test.YtfkfpanhbanljaaGreatSetV
import Derived.Test.YtfkfpanhbanljaaGreatSetM
import Derived.Sort.MapsRangeIn
import Derived.Maps.OwnIn
import Derived.RangeFuncBox
import Derived.RangeFuncLeaves
import Derived.Shelf.Abstract
import Derived.WalkKit
import Derived.OwnWalkIn
import Derived.TacticsInMore
import Derived.LoopNIn
import Derived.LoopIn
import Derived.Maps.AppendAt
namespace Go.Proofs.YtfkfpanhbanljaaGreat.View
open Go.RowKit Go.Proofs.YtfkfpanhbanljaaGreat.Mem Go.Proofs.YtfkfpanhbanljaaGreat.Card Go.Proofs.YtfkfpanhbanljaaGreat.Past Go.Proofs.YtfkfpanhbanljaaGreat.Reg Go.Maps

attribute [local go_sem] Oper.semAt_some
abbrev uV (x : Nat) : Value := .int .u8 (x : Int)
theorem keyOf_u {key : Value} {kl : Lit} (h : keyOf Tryz.prog 5 key = some kl) : ∃ x : Nat, key = uV x ∧ kl = kU x ∧ x < 256 := by
  obtain ⟨z, rfl, rfl, hw⟩ := Maps.keyOf_int_inv Tryz.underlying5 h
  have h1 : 0 ≤ z ∧ z < 256 := by
    have h1 : IntKind.u8.min = 0 := by decide
    have h2 : IntKind.u8.max = 255 := by decide
    unfold Lit.wf at hw
    rw [Bool.and_eq_true, decide_eq_true_iff, decide_eq_true_iff, h1, h2] at hw
    omega
  obtain ⟨x, rfl⟩ : ∃ x : Nat, z = (x : Int) := ⟨z.toNat, by omega⟩
  exact ⟨x, rfl, rfl, by omega⟩
theorem uV_inj {x y : Nat} (h : uV x = uV y) : x = y := by
  have := (Value.int.inj h).2
  omega
/-- keys come so far -/
def GotU (D0 : DataW Unit) (left : Lit → Bool) (ss : List Nat) : Prop := ss.Nodup ∧ ∀ x, x ∈ ss ↔ (x < 256 ∧ has D0 (kU x) = true ∧ left (kU x) = false)
theorem GotU.start (D0 : DataW Unit) : GotU D0 (has D0) [] := ⟨List.nodup_nil, fun x => by
  simp only [List.not_mem_nil, false_iff]
  rintro ⟨_, a, b⟩
  rw [a] at b
  cases b⟩
theorem kU_same {x y : Nat} : (kU y).sameKey (kU x) = decide (y = x) := by
  simp [kU, Lit.sameKey]
  omega
theorem GotU.step {D0 y : DataW Unit} {left : Lit → Bool} {ss : List Nat} (h : GotU D0 left ss) {x : Nat} (hx : x < 256) (hlk : left (kU x) = true) (hat : ∀ zd, D0.atKey (kU x) zd = y) : GotU D0 (fun z => left z && !z.sameKey (kU x)) (ss ++ [x]) := by
  have hhas : has D0 (kU x) = true := has_true_of_atKey hat
  have hnew : x ∉ ss := fun hx => by have := ((h.2 x).1 hx).2.2; rw [hlk] at this; cases this
  refine ⟨List.nodup_append.2 ⟨h.1, by simp, fun a ha b hb => by simp at hb; subst hb; exact fun e => hnew (e ▸ ha)⟩, fun y => ?_⟩
  dsimp only
  rw [List.mem_append, List.mem_singleton, h.2 y, kU_same]
  by_cases hy : y = x
  · subst hy; simp [hhas, hx]
  · simp [hy]
/-- the keys that a map has -/
def KeysU (D0 : DataW Unit) (ss : List Nat) : Prop := ss.Nodup ∧ ∀ x, x ∈ ss ↔ (x < 256 ∧ has D0 (kU x) = true)
set_option maxRecDepth 100000 in
set_option maxHeartbeats 2000000 in
theorem keys1U (n : Nat) (hn : 1 ≤ n) (l Bm b nn : Nat) (D0 : DataW Unit) (J Jx : List Nat → World → Prop)
    (hY : ∀ pre x W, J pre W → pre.length < Maps.size D0 → YieldAt Fence.wide (n - 1) Tryz.prog l #[uV x] W fun e W' => (e = .returned (.bool true) ∧ J (pre ++ [x]) W' ∧ KeepsWalks W W') ∨ (e = .returned (.bool false) ∧ Jx (pre ++ [x]) W'))
    (W : World) (hJ : AbidesFrom W.heap.size J) (hm : W.cell? ⟨Bm, 0, none⟩ = some (.map (some b))) (hown : W.ownsMap Tryz.prog 5 hdR b nn D0) (h0 : J [] W) :
    CallsIn Fence.wide n Tryz.prog 73 #[.func (.yield l) #[] #[], .pointer (some ⟨Bm, 0, none⟩)] W fun e W' => (∃ v, e = .returned v) ∧ ((∃ ss, KeysU D0 ss ∧ J ss W') ∨ (∃ pre, True ∧ Jx pre W')) := by
  refine callsIn_of_wp Tryz.func73 rfl trivial ?_ rfl
  simp only [Tryz.ntmps73, List.size_toArray, List.length_cons, List.length_nil, Nat.reduceAdd, Nat.reduceSub, Array.replicate_succ, Array.replicate_zero, List.push_toArray, List.append_toArray, List.nil_append, List.cons_append]
  gi_wp2_with (first
    | (gi_at_range; refine wpListIn_range_own _ rfl _ 96 rfl 5 97 lawU Tryz.underlying96 _ b nn _ rfl hown ?_; intro w0 hrg0 hg0 hs0)
    | gi_in)
  go_frame
  gi_loopw [3] (fun _ wr => ∃ (left : Lit → Bool) (cnt : Nat) (ss : List Nat), wr.ranges Tryz.prog 5 hdR b W.heap.size nn D0 left cnt ∧ ss.length + cnt ≤ Maps.size D0 ∧ GotU D0 left ss ∧ J ss wr) (fun _ wr => wr.rangeLeft b W.heap.size)
  case atStart => exact ⟨_, _, [], hrg0, by simp, GotU.start D0, hJ [] W w0 none h0 hg0 (fun r e => by cases e)⟩
  case round =>
    obtain ⟨left, cnt, ss, hrg, hcs, hC, hJs⟩ := hrel
    gi_wp2_with (first
      | (gi_at_next; refine wpListIn_next_ranges _ rfl _ rfl 5 lawU hdR uV id (fun key kl hk => by obtain ⟨x, hx, _⟩ := keyOf_u hk; exact ⟨x, hx⟩) (fun v _ _ => ⟨v, rfl⟩) b W.heap.size nn _ _ _ rfl hrg ?_ ?_)
      | gi_in)
    · intro hc0 hl0
      gi_wp2
      go_end0
      exact ⟨⟨_, rfl⟩, .inl ⟨ss, ⟨hC.1, fun x => by rw [hC.2 x, hl0]; simp⟩, hJs⟩⟩
    · intro x c kl yd yp w2 cnt2 hkey hlk hv hat hrg2 hlt hg2 hs2 hen
      obtain ⟨x', ex, rfl, hx256⟩ := keyOf_u hkey
      obtain rfl : x = x' := uV_inj ex
      have hJ2 : J ss w2 := hJ ss wr w2 (some W.heap.size) hJs hg2 (fun r e => by cases e; exact ⟨Nat.le_refl _, hrg.iter_walk⟩)
      obtain ⟨fn, tmps, assign, body, hy, hR⟩ := hY ss x w2 hJ2 (by omega)
      clear hs2
      gi_wp2
      refine hR.mono ?_
      have hC2 := hC.step hx256 hlk hat
      rintro e W3 (⟨rfl, hJ3, hk3⟩ | ⟨rfl, hJx3⟩)
      · gi_wp2
        have hrg3 := hrg2.of_walks hk3
        go_roundw
        case rel => exact ⟨_, cnt2, ss ++ [x], hrg3, by simp; omega, hC2, hJ3⟩
        case measure => rw [hrg3.left_eq, hrg.left_eq]; exact hlt
      · gi_wp2
        exact bodyPost_ret (results_none rfl _ _ _) rfl ⟨⟨_, rfl⟩, .inr ⟨ss ++ [x], trivial, hJx3⟩⟩
theorem keysU_stops (n : Nat) (hn : 1 ≤ n) (Bm b nn : Nat) (D0 : DataW Unit) (w : World) (hBm : Bm < w.heap.size) (hm : w.cell? ⟨Bm, 0, none⟩ = some (.map (some b))) (hown : w.ownsMap Tryz.prog 5 hdR b nn D0) :
    SeqStopsK Fence.wide n Tryz.prog 73 #[.pointer (some ⟨Bm, 0, none⟩)] (fun x => #[uV x]) KeepsWalks (KeysU D0) (fun _ => True) (Maps.size D0) w := fun l J Jx W hW hJ _ hY h0 => by
  have hown' : W.ownsMap Tryz.prog 5 hdR b nn D0 := by
    have hbl := hown.lt
    obtain ⟨es, clock, hb, Ft, hs, hD⟩ := hown
    exact ⟨es, clock, (hW.block b hbl).trans hb, Ft, hs, hD⟩
  exact keys1U n hn l Bm b nn D0 J Jx hY W hJ ((hW.cell (p := ⟨Bm, 0, none⟩) hBm).trans hm) hown' h0
theorem keysU_any (mb : Option Nat) (w : World) : Calls Tryz.prog 56 #[.map mb] w fun e w' => e = .returned (.func (.func 73) #[] #[.pointer (some ⟨w.heap.size, 0, none⟩)]) ∧ w' = w.alloc (.cells #[.map mb] 96) := by
  go_enter Tryz.func56, Tryz.ntmps56
  go_wp2
  go_ret
  exact ⟨rfl, rfl⟩
theorem u8_infoV : (Tryz.prog.info? 5).map (fun i => (i.zero, i.size, i.bytes)) = some (some (.int .u8 0), 1, 1) := by kernel_rfl
theorem BB_snocV (l : List Nat) (x : Nat) : BB (l ++ [x]) = BB l ++ [uV x] := by unfold BB; rw [List.map_append]; rfl
set_option maxRecDepth 100000 in
set_option maxHeartbeats 4000000 in
theorem appSeqU (g : Nat) (lb : Array Value) (eg : ∀ args w, (callFunc g args).run Tryz.prog w = .ok (.enter g args) w) (S : List Nat → Prop) (N : Nat) (hN : N ≤ 1000) (w : World) (hseq : SeqStopsK Fence.wide 2 Tryz.prog g lb (fun x => #[uV x]) KeepsWalks S (fun _ => True) N w) :
    CallsIn Fence.wide 3 Tryz.prog 86 #[.slice none 0 0, .func (.func g) #[] lb] w fun e w' => ∃ (v : Value) (ss : List Nat), e = .returned v ∧ S ss ∧ w'.ownsRow w.heap.size 5 1 v ss.length (BB ss) ∧ Below w.heap.size w w' := by
  obtain ⟨i0, hi, hz0, hz1, hz2⟩ := info_parts u8_infoV
  refine callsIn_of_wp_marks Tryz.func86 rfl trivial ?_ rfl
  simp only [Tryz.ntmps86, List.size_toArray, List.length_cons, List.length_nil, Nat.reduceAdd, Nat.reduceSub, Array.replicate_succ, Array.replicate_zero, List.push_toArray, List.append_toArray, List.nil_append, List.cons_append]
  gi_wp2
  have bO := Boxed.new w 100 (.slice none 0 0)
  have hB0 : Below w.heap.size w (w.alloc (.cells #[.slice none 0 0] 100)) := (Below.refl _ w).alloc (Nat.le_refl _) _
  refine wpIn_rangeFunc_ownG rfl (by omega) (gf := g) (lb := lb) rfl trivial eg hseq walksK_t walksK_b hB0 (fun _ => rfl)
    (fun pre W => (∃ v, Boxed W w.heap.size 100 v ∧ W.ownsRow w.heap.size 5 1 v pre.length (BB pre) ∧ True) ∧ Below w.heap.size w W)
    (fun _ _ _ => False)
    (OwnFrom.and (Own.from (holdsRow_own w.heap.size w.heap.size 100 5 1 (fun pre => pre.length) (fun pre => BB pre) (fun _ _ => True)) _) (ownFrom_below (Nat.le_refl _) (by simp)))
    (fun _ _ _ _ _ hs _ _ => hs)
    ⟨⟨_, bO, World.ownsRow_nil _ _ _ _, trivial⟩, hB0⟩
    (fun x => { tmps := #[.slice none 0 0, .func (.func g) #[] lb, .pointer (some ⟨w.heap.size, 0, none⟩), undef, .slice none 0 0, uV x, .func (.func g) #[] lb, uV x, undef, undef, undef, undef, undef], defers := [] }) ?assign ?body ?done ?stop
  case assign =>
    intro l x W K hK
    gi_wp2
    exact hK
  case body =>
    rintro l pre x W ⟨⟨v, hv, hrow, -⟩, hB⟩ hlt
    have hc := hv.cell
    have hml : 1000 ≤ maxLen := by decide
    gi_wp2_with (gi_at_builtin; refine wpListIn_append_own _ rfl _ _ 100 rfl w.heap.size 5 i0 (.int .u8 0) 1 1 Tryz.underlying100 hi hz0 hz1 hz2 rfl (by decide) _ _ _ rfl (hrow.alloc _) ⟨W.heap.size, 0, none⟩ 1 1 [uV x] rfl rfl (cell_one_new _ _ _) (by simp [Value.oneCell', uV]) (by omega) (by omega) (by have := hB.size; simp; omega) ?_; intro v' w1 hown' hgrow _; obtain ⟨g', cap', rfl⟩ := ownsRow_succ hown'; obtain ⟨hv1, hv2, hr2, hk2, hb2⟩ := hv.appended (by decide) hrow hB.size (Nat.le_refl _) hown' hgrow; have hc1 := hv1.cell; have hf1 := hv1.frozen)
    exact ⟨hk2.from _, hk2.walks, ⟨_, hv2, by rw [BB_snocV]; simpa using hr2, trivial⟩, hB.trans hb2⟩
  case done =>
    rintro D ys W hD hS ⟨⟨v, hv, hrow, -⟩, hB⟩ hK
    have hc := hv.cell
    gi_wp2
    refine ⟨by simp, .inl ⟨_, _, rfl, run_takeDeferred hK, ?_⟩⟩
    exact ⟨_, results_tmp rfl _ _ _, v, ys, rfl, hS, ownsRow_putObj hrow _ hK rfl, hB.trans (belowK_b (w := w) (Nat.le_refl _) W D _ _ (by simp at hD; omega) hK rfl rfl)⟩
  case stop =>
    rintro D c pre W _ _ h _
    exact h.elim
set_option maxRecDepth 100000 in
set_option maxHeartbeats 1000000 in
theorem collectU (g : Nat) (lb : Array Value) (eg : ∀ args w, (callFunc g args).run Tryz.prog w = .ok (.enter g args) w) (S : List Nat → Prop) (N : Nat) (hN : N ≤ 1000) (w : World) (hseq : SeqStopsK Fence.wide 2 Tryz.prog g lb (fun x => #[uV x]) KeepsWalks S (fun _ => True) N w) :
    CallsIn Fence.wide 4 Tryz.prog 71 #[.func (.func g) #[] lb] w fun e w' => ∃ (v : Value) (ss : List Nat), e = .returned v ∧ S ss ∧ w'.ownsRow w.heap.size 5 1 v ss.length (BB ss) ∧ Below w.heap.size w w' := by
  refine callsIn_of_wp Tryz.func71 rfl trivial ?_ rfl
  simp only [Tryz.ntmps71, List.size_toArray, List.length_cons, List.length_nil, Nat.reduceAdd, Nat.reduceSub, Array.replicate_succ, Array.replicate_zero, List.push_toArray, List.append_toArray, List.nil_append, List.cons_append]
  gi_wp2
  refine ⟨trivial, (appSeqU g lb eg S N hN _ hseq).mono ?_⟩
  rintro e w' ⟨v, ss, rfl, hS, hrow, hb⟩
  gi_wp2
  go_ret
  exact ⟨v, ss, rfl, hS, hrow, hb⟩
theorem keysU_perm {D0 : DataW Unit} {ss l : List Nat} (h : KeysU D0 ss) (hp : l.Perm ss) (hs : l.Pairwise (· ≤ ·)) : KeysU D0 l ∧ l.Pairwise (· < ·) := by
  have hn : l.Nodup := hp.nodup_iff.2 h.1
  refine ⟨⟨hn, fun x => by rw [hp.mem_iff]; exact h.2 x⟩, ?_⟩
  exact (List.pairwise_and_iff.2 ⟨hs, hn⟩).imp fun {a b} hab => Nat.lt_of_le_of_ne hab.1 hab.2
set_option maxRecDepth 100000 in
set_option maxHeartbeats 1000000 in
theorem sortedU_any (Bm b nn : Nat) (D0 : DataW Unit) (w : World) (hBm : Bm < w.heap.size) (hm : w.cell? ⟨Bm, 0, none⟩ = some (.map (some b))) (hown : w.ownsMap Tryz.prog 5 hdR b nn D0) (hd : Maps.size D0 ≤ 1000) (hk : ∀ ss, KeysU D0 ss → ss.length ≤ 25) :
    Calls Tryz.prog 55 #[.func (.func 73) #[] #[.pointer (some ⟨Bm, 0, none⟩)]] w fun e w' => ∃ (A : Option Addr) (c : Nat) (ss : List Nat), e = .returned (.slice A ss.length c) ∧ KeysU D0 ss ∧ ss.Pairwise (· < ·) ∧ Mem.Own w' w.heap.size 5 (.slice A ss.length c) (BB ss) ∧ Below w.heap.size w w' := by
  have CC := kept ((callsIn_wide (n := 4)).1 (collectU 73 #[.pointer (some ⟨Bm, 0, none⟩)] (enters_of Tryz.func73 (by kernel_rfl) rfl) (KeysU D0) (Maps.size D0) hd w (keysU_stops 2 (by omega) Bm b nn D0 w hBm hm hown)))
  have HK := kept hk
  clear hm hown hd hk
  go_enter Tryz.func55, Tryz.ntmps55
  go_wp2_with fail
  refine CC.out.mono ?_
  rintro e w1 ⟨v, ss, rfl, hS, hrow, hb1⟩
  obtain ⟨A, c, rfl⟩ : ∃ A c, v = .slice A ss.length c := by
    rcases hrow.2 with ⟨rfl, hz⟩ | ⟨gb, cap, cur, rfl, -⟩
    · exact ⟨none, 0, by rw [hz]⟩
    · exact ⟨_, _, rfl⟩
  have hbl : (BB ss).length = ss.length := by unfold BB; rw [List.length_map]
  have ho : Mem.Own w1 w.heap.size 5 (.slice A ss.length c) (BB ss) := by unfold Mem.Own; rw [hbl]; exact hrow
  have CS := kept (SortY.sort_25 w.heap.size A c ss w1 ho (HK.out ss hS))
  have HB1 := kept hb1
  have HSS := kept hS
  have HOU : Kept (∀ k, (Value.slice A ss.length c).ownBlock = some k → w.heap.size ≤ k) := ⟨fun k e => (ho.lt k e).1⟩
  clear hrow hb1 CC hS ho hbl
  go_wp2_with fail
  refine CS.out.mono ?_
  rintro e w2 ⟨rfl, l', hp, hs, ho2, hu2⟩
  have hl := hp.length_eq
  have HB2 := kept (HB1.out.trans (hu2.below HB1.out.size fun k _ e => HOU.out k e))
  obtain ⟨h1, h2⟩ := keysU_perm HSS.out hp hs
  have HE : Kept (∃ (A' : Option Addr) (c' : Nat) (l : List Nat), Value.slice A ss.length c = .slice A' l.length c' ∧ KeysU D0 l ∧ l.Pairwise (· < ·) ∧ Mem.Own w2 w.heap.size 5 (.slice A' l.length c') (BB l)) := ⟨A, c, l', by rw [hl], h1, h2, by rw [hl]; exact ho2⟩
  clear hp hs ho2 hu2 CS hl h1 h2
  generalize Value.slice A ss.length c = sv at *
  go_wp2_with fail
  go_ret
  obtain ⟨A', c', l, e1, e2, e3, e4⟩ := HE.out
  exact ⟨A', c', l, congrArg Ending.returned e1, e2, e3, e4, HB2.out⟩
end Go.Proofs.YtfkfpanhbanljaaGreat.View
