/- Layer 47 (twin): may two cards be one? (printed by tools/gentw.py) -/
import Derived.Test.YtfkfpanhbanljaaGreatDoorTwinSome
import Derived.Test.YtfkfpanhbanljaaGreatDoorSet45
import Derived.Test.YtfkfpanhbanljaaGreatDoorSet25
import Derived.Deep.RegionHeld3
import Derived.BigQuiet
import Derived.Deep.DeepCutAuto
namespace Go.Proofs.YtfkfpanhbanljaaGreatDoor.Twin
open Go.RowKit Go.Proofs.YtfkfpanhbanljaaGreatDoor.Mem Go.Proofs.YtfkfpanhbanljaaGreatDoor.Card Go.Proofs.YtfkfpanhbanljaaGreatDoor.Fold Go.Proofs.YtfkfpanhbanljaaGreatDoor.Laid

/-- may two cards be one? -/
def alikeB (a b : CardM) : Bool :=
  someM Phone.sameB (textsF 2 a.ls) (textsF 2 b.ls) || someM mailB (textsF 3 a.ls) (textsF 3 b.ls) || (decide (foldB (titleOf a.ls) ≠ ⟨#[]⟩) && decide (foldB (titleOf a.ls) = foldB (titleOf b.ls)))
/-- what a card's texts are bound by -/
def SmallK (x : CardM) : Prop := x.ls.length ≤ 12 ∧ ∀ z ∈ x.ls, z.t.size ≤ 4294967000 ∧ z.m.length ≤ 10 ∧ ∀ y ∈ z.m, y.size ≤ 140737488355000
theorem texts_len {f : Nat} : ∀ {ls : List LineM}, (∀ z ∈ ls, z.m.length ≤ 10) → (textsF f ls).length ≤ ls.length * 11
  | [], _ => by simp [textsF]
  | z :: ls, h => by
    have h1 := texts_len (f := f) (ls := ls) fun q hq => h q (List.mem_cons_of_mem _ hq)
    have h2 := h z (List.mem_cons_self ..)
    unfold textsF at h1 ⊢
    rw [List.flatMap_cons, List.length_append, List.length_cons]
    split
    · simp only [List.length_cons]; omega
    · simp only [List.length_nil]; omega
theorem texts_mem {f : Nat} {ls : List LineM} {x : ByteArray} (h : x ∈ textsF f ls) : ∃ z ∈ ls, x = z.t ∨ x ∈ z.m := by
  unfold textsF at h
  obtain ⟨z, hz, hx⟩ := List.mem_flatMap.1 h
  split at hx
  · exact ⟨z, hz, List.mem_cons.1 hx⟩
  · cases hx
theorem title_size {ls : List LineM} {n : Nat} (h : ∀ z ∈ ls, z.t.size ≤ n) : (titleOf ls).size ≤ n := by
  unfold titleOf
  cases hf : ls.find? hasT with
  | none => exact Nat.zero_le _
  | some z => exact h z (List.mem_of_find?_eq_some hf)
section
variable {x : CardM} (h : SmallK x)
include h
theorem SmallK.len (f : Nat) : (textsF f x.ls).length ≤ 132 := by
  have h1 := texts_len (f := f) fun z hz => (h.2 z hz).2.1
  have h2 := h.1
  omega
theorem SmallK.size (f : Nat) : ∀ y ∈ textsF f x.ls, y.size ≤ 140737488355000 := fun y hy => by
  obtain ⟨z, hz, e⟩ := texts_mem hy
  rcases e with rfl | hm
  · exact Nat.le_trans (h.2 z hz).1 (by decide)
  · exact (h.2 z hz).2.2 y hm
theorem SmallK.title : (titleOf x.ls).size ≤ 4294967000 := title_size fun z hz => (h.2 z hz).1
end
set_option maxRecDepth 100000 in
set_option maxHeartbeats 4000000 in
theorem alike_any (a b : CardM) (w : World) (ha : a.Ok w w.heap.size) (hb : b.Ok w w.heap.size) (hm : ML w) (sa : SmallK a) (sb : SmallK b) :
    Calls Tryz.prog 20 #[a.val, b.val] w fun e w' => e = .returned (.bool (alikeB a b)) ∧ Below w.heap.size w w' := by
  have CA2 : Kept (∀ W : World, Below w.heap.size w W → Calls Tryz.prog 42 #[a.val, .int .u8 2] W (strE.Gives 9 W (textsF 2 a.ls))) := ⟨fun W h => ttexts_any a 2 W (ha.next h) sa.1 fun z hz => (sa.2 z hz).2.1⟩
  have CB2 : Kept (∀ W : World, Below w.heap.size w W → Calls Tryz.prog 42 #[b.val, .int .u8 2] W (strE.Gives 9 W (textsF 2 b.ls))) := ⟨fun W h => ttexts_any b 2 W (hb.next h) sb.1 fun z hz => (sb.2 z hz).2.1⟩
  have CA3 : Kept (∀ W : World, Below w.heap.size w W → Calls Tryz.prog 42 #[a.val, .int .u8 3] W (strE.Gives 9 W (textsF 3 a.ls))) := ⟨fun W h => ttexts_any a 3 W (ha.next h) sa.1 fun z hz => (sa.2 z hz).2.1⟩
  have CB3 : Kept (∀ W : World, Below w.heap.size w W → Calls Tryz.prog 42 #[b.val, .int .u8 3] W (strE.Gives 9 W (textsF 3 b.ls))) := ⟨fun W h => ttexts_any b 3 W (hb.next h) sb.1 fun z hz => (sb.2 z hz).2.1⟩
  have CS2 := kept (fun (W : World) (A B : Option Addr) (ca cb : Nat) (h1 : strE.Rd W W.heap.size A (textsF 2 a.ls)) (h2 : strE.Rd W W.heap.size B (textsF 2 b.ls)) => some_phone A B _ _ ca cb W h1 h2 (by have := sa.len 2; omega) (by have := sb.len 2; omega) (sa.size 2) (sb.size 2))
  have CS3 := kept (fun (W : World) (A B : Option Addr) (ca cb : Nat) (h1 : strE.Rd W W.heap.size A (textsF 3 a.ls)) (h2 : strE.Rd W W.heap.size B (textsF 3 b.ls)) => some_mail A B _ _ ca cb W h1 h2 (by have := sa.len 3; omega) (by have := sb.len 3; omega) (sa.size 3) (sb.size 3))
  have CTA := kept (fun (W : World) (h : Below w.heap.size w W) => title_any a W (ha.next h))
  have CTB := kept (fun (W : World) (h : Below w.heap.size w W) => title_any b W (hb.next h))
  have CFA := kept (fun (W : World) (h : Below w.heap.size w W) => fold_any (titleOf a.ls) W sa.title (hm.next h))
  have CFB := kept (fun (W : World) (h : Below w.heap.size w W) => fold_any (titleOf b.ls) W sb.title (hm.next h))
  obtain ⟨acid, aX, als, ac⟩ := a
  obtain ⟨bcid, bX, bls, bc⟩ := b
  unfold alikeB
  clear ha hb hm sa sb
  have hb0 : Below w.heap.size w ((w.alloc (.cells #[.int .u64 (acid : Int), .slice aX als.length ac] 31)).alloc (.cells #[.int .u64 (bcid : Int), .slice bX bls.length bc] 31)) := ((Below.refl _ _).alloc (Nat.le_refl _) _).alloc (by simp) _
  have hka : Blk ((w.alloc (.cells #[.int .u64 (acid : Int), .slice aX als.length ac] 31)).alloc (.cells #[.int .u64 (bcid : Int), .slice bX bls.length bc] 31)) w.heap.size [.int .u64 (acid : Int), .slice aX als.length ac] 31 := (Blk.new w _ _).alloc _
  have hkb : Blk ((w.alloc (.cells #[.int .u64 (acid : Int), .slice aX als.length ac] 31)).alloc (.cells #[.int .u64 (bcid : Int), .slice bX bls.length bc] 31)) (w.heap.size + 1) [.int .u64 (bcid : Int), .slice bX bls.length bc] 31 := Blk.newAt _ _ _ (by simp)
  unfold CardM.val
  dsimp only at CA2 CB2 CA3 CB3 CS2 CS3 CTA CTB CFA CFB ⊢
  unfold CardM.val at CA2 CB2 CA3 CB3 CTA CTB
  dsimp only at CA2 CB2 CA3 CB3 CTA CTB
  generalize someM Phone.sameB (textsF 2 als) (textsF 2 bls) = p at *
  generalize someM mailB (textsF 3 als) (textsF 3 bls) = q at *
  generalize textsF 2 als = la2 at *
  generalize textsF 2 bls = lb2 at *
  generalize textsF 3 als = la3 at *
  generalize textsF 3 bls = lb3 at *
  generalize titleOf als = ta at *
  generalize titleOf bls = tb at *
  generalize foldB ta = fa at *
  generalize foldB tb = fb at *
  go_enter Tryz.func20, Tryz.ntmps20
  go_upto_region 1 with fail
  generalize hwv : (w.alloc (.cells #[.int .u64 (acid : Int), .slice aX als.length ac] 31)).alloc (.cells #[.int .u64 (bcid : Int), .slice bX bls.length bc] 31) = wv at *
  clear hwv
  have HB0 := kept hb0
  have HKA := kept hka
  have HKB := kept hkb
  clear hb0 hka hkb
  have HW : Kept (∀ W, Below wv.heap.size wv W → Below w.heap.size w W) := ⟨fun W h => HB0.out.trans (h.mono HB0.out.size)⟩
  have HS : Kept (∀ W, Below wv.heap.size wv W → W.cell? ⟨w.heap.size, 0, none⟩ = some (.int .u64 (acid : Int)) ∧ W.cell? ⟨w.heap.size, 1, none⟩ = some (.slice aX als.length ac) ∧ W.cell? ⟨w.heap.size + 1, 0, none⟩ = some (.int .u64 (bcid : Int)) ∧ W.cell? ⟨w.heap.size + 1, 1, none⟩ = some (.slice bX bls.length bc)) := ⟨fun W h => ⟨(HKA.out.next h).cell (j := 0) rfl, (HKA.out.next h).cell (j := 1) rfl, (HKB.out.next h).cell (j := 0) rfl, (HKB.out.next h).cell (j := 1) rfl⟩⟩
  cases p with
  | true =>
    clear CA3 CB3 CS3 CTA CTB CFA CFB
    go_cut [17] (fun p wr => p = .bool true ∧ Kept (Below wv.heap.size wv wr))
    case first =>
      have hd0 : Below wv.heap.size wv wv := Below.refl _ _
      obtain ⟨s0, s1, s2, s3⟩ := HS.out wv (Below.refl _ _)
      go_region_with (first
        | (go_at_call 42; ((with_reducible refine (CA2.out _ (HW.out _ (by (repeat (first | with_reducible assumption | with_reducible refine below_new ?_ _ | with_reducible refine Below.drew ?_ | with_reducible exact Below.refl _ _))))).mono ?_); rintro e x1 ⟨A1, c1, rfl, ho1, hcp1, hx1⟩; have hk1 : Below wv.heap.size wv x1 := below_next (by (repeat (first | with_reducible assumption | with_reducible refine below_new ?_ _ | with_reducible refine Below.drew ?_ | with_reducible exact Below.refl _ _))) hx1; (first | (have hj21 : Below x2.heap.size x2 x1 := below_next (by (repeat (first | with_reducible assumption | with_reducible refine below_new ?_ _ | with_reducible refine Below.drew ?_ | with_reducible exact Below.refl _ _))) hx1) | skip); have HR1 := kept (fun (W : World) (hW : Below x1.heap.size x1 W) => ho1.rd.next hW); obtain ⟨s10, s11, s12, s13⟩ := HS.out x1 hk1))
        | (go_at_call 42; ((with_reducible refine (CB2.out _ (HW.out _ (by (repeat (first | with_reducible assumption | with_reducible refine below_new ?_ _ | with_reducible refine Below.drew ?_ | with_reducible exact Below.refl _ _))))).mono ?_); rintro e x2 ⟨A2, c2, rfl, ho2, hcp2, hx2⟩; have hk2 : Below wv.heap.size wv x2 := below_next (by (repeat (first | with_reducible assumption | with_reducible refine below_new ?_ _ | with_reducible refine Below.drew ?_ | with_reducible exact Below.refl _ _))) hx2; (first | (have hj12 : Below x1.heap.size x1 x2 := below_next (by (repeat (first | with_reducible assumption | with_reducible refine below_new ?_ _ | with_reducible refine Below.drew ?_ | with_reducible exact Below.refl _ _))) hx2) | skip); have HR2 := kept (fun (W : World) (hW : Below x2.heap.size x2 W) => ho2.rd.next hW); obtain ⟨s20, s21, s22, s23⟩ := HS.out x2 hk2))
        | (go_at_call 41; ((with_reducible refine (CS2.out _ _ _ _ _ (HR1.out _ (by (repeat (first | with_reducible assumption | with_reducible refine below_new ?_ _ | with_reducible refine Below.drew ?_ | with_reducible exact Below.refl _ _)))) (HR2.out _ (by (repeat (first | with_reducible assumption | with_reducible refine below_new ?_ _ | with_reducible refine Below.drew ?_ | with_reducible exact Below.refl _ _))))).mono ?_); rintro e x5 ⟨rfl, hx5⟩; have hk5 : Below wv.heap.size wv x5 := below_next (by (repeat (first | with_reducible assumption | with_reducible refine below_new ?_ _ | with_reducible refine Below.drew ?_ | with_reducible exact Below.refl _ _))) hx5; obtain ⟨s50, s51, s52, s53⟩ := HS.out x5 hk5)))
      all_goals
        go_wp2_with fail
        go_meet
        exact ⟨rfl, ⟨(by (repeat (first | with_reducible assumption | with_reducible refine below_new ?_ _ | with_reducible refine Below.drew ?_ | with_reducible exact Below.refl _ _)))⟩⟩
    case rest =>
      obtain ⟨rfl, hcut⟩ := hcut
      go_wp2_with fail
      go_ret
      exact ⟨rfl, HW.out _ hcut.out⟩
  | false =>
    go_cut [17] (fun p wr => p = .bool q ∧ Kept (Below wv.heap.size wv wr))
    case first =>
      have hd0 : Below wv.heap.size wv wv := Below.refl _ _
      go_region_held3 (fun W => W.cell? ⟨w.heap.size, 0, none⟩ = some (.int .u64 (acid : Int)) ∧ W.cell? ⟨w.heap.size, 1, none⟩ = some (.slice aX als.length ac) ∧ W.cell? ⟨w.heap.size + 1, 0, none⟩ = some (.int .u64 (bcid : Int)) ∧ W.cell? ⟨w.heap.size + 1, 1, none⟩ = some (.slice bX bls.length bc)) (exact HS.out _ (by (repeat (first | with_reducible assumption | with_reducible refine below_new ?_ _ | with_reducible refine Below.drew ?_ | with_reducible exact Below.refl _ _)))) (first
        | (go_at_call 42; ((with_reducible refine (CA2.out _ (HW.out _ (by (repeat (first | with_reducible assumption | with_reducible refine below_new ?_ _ | with_reducible refine Below.drew ?_ | with_reducible exact Below.refl _ _))))).mono ?_); rintro e x1 ⟨A1, c1, rfl, ho1, hcp1, hx1⟩; have hk1 : Below wv.heap.size wv x1 := below_next (by (repeat (first | with_reducible assumption | with_reducible refine below_new ?_ _ | with_reducible refine Below.drew ?_ | with_reducible exact Below.refl _ _))) hx1; (first | (have hj21 : Below x2.heap.size x2 x1 := below_next (by (repeat (first | with_reducible assumption | with_reducible refine below_new ?_ _ | with_reducible refine Below.drew ?_ | with_reducible exact Below.refl _ _))) hx1) | skip); have HR1 := kept (fun (W : World) (hW : Below x1.heap.size x1 W) => ho1.rd.next hW)))
        | (go_at_call 42; ((with_reducible refine (CB2.out _ (HW.out _ (by (repeat (first | with_reducible assumption | with_reducible refine below_new ?_ _ | with_reducible refine Below.drew ?_ | with_reducible exact Below.refl _ _))))).mono ?_); rintro e x2 ⟨A2, c2, rfl, ho2, hcp2, hx2⟩; have hk2 : Below wv.heap.size wv x2 := below_next (by (repeat (first | with_reducible assumption | with_reducible refine below_new ?_ _ | with_reducible refine Below.drew ?_ | with_reducible exact Below.refl _ _))) hx2; (first | (have hj12 : Below x1.heap.size x1 x2 := below_next (by (repeat (first | with_reducible assumption | with_reducible refine below_new ?_ _ | with_reducible refine Below.drew ?_ | with_reducible exact Below.refl _ _))) hx2) | skip); have HR2 := kept (fun (W : World) (hW : Below x2.heap.size x2 W) => ho2.rd.next hW)))
        | (go_at_call 41; ((with_reducible refine (CS2.out _ _ _ _ _ (HR1.out _ (by (repeat (first | with_reducible assumption | with_reducible refine below_new ?_ _ | with_reducible refine Below.drew ?_ | with_reducible exact Below.refl _ _)))) (HR2.out _ (by (repeat (first | with_reducible assumption | with_reducible refine below_new ?_ _ | with_reducible refine Below.drew ?_ | with_reducible exact Below.refl _ _))))).mono ?_); rintro e x5 ⟨rfl, hx5⟩; have hk5 : Below wv.heap.size wv x5 := below_next (by (repeat (first | with_reducible assumption | with_reducible refine below_new ?_ _ | with_reducible refine Below.drew ?_ | with_reducible exact Below.refl _ _))) hx5))
        | (go_at_call 42; ((with_reducible refine (CA3.out _ (HW.out _ (by (repeat (first | with_reducible assumption | with_reducible refine below_new ?_ _ | with_reducible refine Below.drew ?_ | with_reducible exact Below.refl _ _))))).mono ?_); rintro e x3 ⟨A3, c3, rfl, ho3, hcp3, hx3⟩; have hk3 : Below wv.heap.size wv x3 := below_next (by (repeat (first | with_reducible assumption | with_reducible refine below_new ?_ _ | with_reducible refine Below.drew ?_ | with_reducible exact Below.refl _ _))) hx3; (first | (have hj43 : Below x4.heap.size x4 x3 := below_next (by (repeat (first | with_reducible assumption | with_reducible refine below_new ?_ _ | with_reducible refine Below.drew ?_ | with_reducible exact Below.refl _ _))) hx3) | skip); have HR3 := kept (fun (W : World) (hW : Below x3.heap.size x3 W) => ho3.rd.next hW)))
        | (go_at_call 42; ((with_reducible refine (CB3.out _ (HW.out _ (by (repeat (first | with_reducible assumption | with_reducible refine below_new ?_ _ | with_reducible refine Below.drew ?_ | with_reducible exact Below.refl _ _))))).mono ?_); rintro e x4 ⟨A4, c4, rfl, ho4, hcp4, hx4⟩; have hk4 : Below wv.heap.size wv x4 := below_next (by (repeat (first | with_reducible assumption | with_reducible refine below_new ?_ _ | with_reducible refine Below.drew ?_ | with_reducible exact Below.refl _ _))) hx4; (first | (have hj34 : Below x3.heap.size x3 x4 := below_next (by (repeat (first | with_reducible assumption | with_reducible refine below_new ?_ _ | with_reducible refine Below.drew ?_ | with_reducible exact Below.refl _ _))) hx4) | skip); have HR4 := kept (fun (W : World) (hW : Below x4.heap.size x4 W) => ho4.rd.next hW)))
        | (go_at_call 41; ((with_reducible refine (CS3.out _ _ _ _ _ (HR3.out _ (by (repeat (first | with_reducible assumption | with_reducible refine below_new ?_ _ | with_reducible refine Below.drew ?_ | with_reducible exact Below.refl _ _)))) (HR4.out _ (by (repeat (first | with_reducible assumption | with_reducible refine below_new ?_ _ | with_reducible refine Below.drew ?_ | with_reducible exact Below.refl _ _))))).mono ?_); rintro e x6 ⟨rfl, hx6⟩; have hk6 : Below wv.heap.size wv x6 := below_next (by (repeat (first | with_reducible assumption | with_reducible refine below_new ?_ _ | with_reducible refine Below.drew ?_ | with_reducible exact Below.refl _ _))) hx6)))
      all_goals
        go_wp2_with fail
        go_meet
        exact ⟨rfl, ⟨(by (repeat (first | with_reducible assumption | with_reducible refine below_new ?_ _ | with_reducible refine Below.drew ?_ | with_reducible exact Below.refl _ _)))⟩⟩
    case rest =>
      obtain ⟨rfl, hcut⟩ := hcut
      obtain ⟨w2, rfl⟩ : ∃ w2 : World, w2 = wc := ⟨_, rfl⟩
      clear CA2 CB2 CS2 CA3 CB3 CS3
      cases q with
      | true =>
        go_wp2_with fail
        go_ret
        exact ⟨rfl, HW.out _ hcut.out⟩
      | false =>
        have k2 := HKA.out.next hcut.out
        clear HS
        go_wp2_with (refine wpl_loadB rfl _ _ rfl w.heap.size rfl _ _ k2 _ rfl rfl rfl ?_)
        refine (CTA.out _ (HW.out _ hcut.out)).mono ?_
        rintro e w3 ⟨rfl, h3⟩
        have hb3 := kept (below_next hcut.out h3)
        go_wp2_with fail
        refine (CFA.out _ (HW.out _ hb3.out)).mono ?_
        rintro e w4 ⟨rfl, h4⟩
        have hb4 := kept (below_next hb3.out h4)
        have k4 := HKB.out.next hb4.out
        clear k2 hcut h3 h4 hb3 HKA HKB CTA CFA
        by_cases he : fa = ⟨#[]⟩
        · subst he
          go_wp2_with fail
          go_ret
          exact ⟨rfl, HW.out _ hb4.out⟩
        · have e0 : (fa.toList == []) = false := by
            rw [show ([] : List UInt8) = (⟨#[]⟩ : ByteArray).toList from by rw [ByteArray.toList_eq], str_beq]
            exact decide_eq_false he
          have hq := str_beq fa fb
          obtain ⟨r, hr⟩ : ∃ r : Bool, decide (fa = fb) = r := ⟨_, rfl⟩
          rw [hr] at hq
          have HR : Kept ((false || false || (decide (fa ≠ ⟨#[]⟩) && decide (fa = fb))) = r) := ⟨by rw [decide_eq_true he, hr]; rfl⟩
          clear he hr
          go_wp2_with (refine wpl_loadBG (by first | rfl | kernel_rfl) _ _ rfl (w.heap.size + 1) rfl _ _ k4 _ rfl rfl rfl ?_)
          refine (CTB.out _ (HW.out _ hb4.out)).mono ?_
          rintro e w5 ⟨rfl, h5⟩
          have hb5 := kept (below_next hb4.out h5)
          go_wp2_with fail
          refine (CFB.out _ (HW.out _ hb5.out)).mono ?_
          rintro e w6 ⟨rfl, h6⟩
          have hb6 := kept (below_next hb5.out h6)
          clear h5 h6 hb5 hb4 k4
          go_wp2_with fail
          go_ret
          exact ⟨congrArg (fun b : Bool => Ending.returned (.bool b)) HR.out.symm, HW.out _ hb6.out⟩
end Go.Proofs.YtfkfpanhbanljaaGreatDoor.Twin
