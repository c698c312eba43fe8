/- Layer 47 (twin): the document's Alike. (printed by tools/gentr.py) -/
import Derived.Test.YtfkfpanhbanljaaGreatDoorSet28
import Derived.Test.YtfkfpanhbanljaaGreatDoorSet13
import Derived.BigQuiet
import Derived.Deep.DeepCutAuto
namespace Go.Proofs.YtfkfpanhbanljaaGreatDoor.Twin
open Go.RowKit Go.Proofs.YtfkfpanhbanljaaGreatDoor.Mem Go.Proofs.YtfkfpanhbanljaaGreatDoor.Card Go.Proofs.YtfkfpanhbanljaaGreatDoor.Fold Go.Proofs.YtfkfpanhbanljaaGreatDoor.Laid

theorem byteAt_sB (s : ByteArray) (i : Nat) : byteAt s i = (sB s).getD i 0 := by
  unfold byteAt
  by_cases h : i < s.size
  · rw [dif_pos h]
    have h2 : i < (sB s).length := by rw [sB_length]; exact h
    simp only [List.getD, List.getElem?_eq_getElem h2, Option.getD_some]
    simp [sB]
    rfl
  · rw [dif_neg h]
    have h2 : ¬ i < (sB s).length := by rw [sB_length]; exact h
    simp only [List.getD, List.getElem?_eq_none (Nat.le_of_not_lt h2), Option.getD_none]
theorem small_all (s : ByteArray) : AllB ((sB s).map smallN) := fun x hx => by
  obtain ⟨y, hy, rfl⟩ := List.mem_map.1 hx
  exact small_lt (sB_all s y hy)
theorem small_eq (x y : ByteArray) : decide (smallB x = smallB y) = eqSmall x y := by
  rw [Bool.eq_iff_iff, decide_eq_true_eq]
  unfold smallB eqSmall
  rw [strB_inj (small_all x) (small_all y), Bool.and_eq_true, decide_eq_true_eq, List.all_eq_true]
  constructor
  · intro h
    have hl : x.size = y.size := by have := congrArg List.length h; simpa [sB_length] using this
    refine ⟨hl, fun i hi => decide_eq_true ?_⟩
    have hi := List.mem_range.1 hi
    have h1 : i < (sB x).length := by rw [sB_length]; exact hi
    have h2 : i < (sB y).length := by rw [sB_length]; omega
    have := congrArg (·[i]?) h
    simp only [List.getElem?_map, List.getElem?_eq_getElem h1, List.getElem?_eq_getElem h2, Option.map_some] at this
    rw [byteAt_sB, byteAt_sB]
    simpa [List.getD, List.getElem?_eq_getElem h1, List.getElem?_eq_getElem h2] using this
  · rintro ⟨hl, h⟩
    refine List.ext_getElem (by simp [sB_length, hl]) fun i h1 h2 => ?_
    have h1 : i < (sB x).length := by simpa using h1
    have h2 : i < (sB y).length := by simpa using h2
    have := of_decide_eq_true (h i (List.mem_range.2 (by rw [← sB_length]; exact h1)))
    rw [byteAt_sB, byteAt_sB] at this
    simpa [List.getD, List.getElem?_eq_getElem h1, List.getElem?_eq_getElem h2] using this
theorem some_true {p : ByteArray → ByteArray → Bool} {a b : List ByteArray} {x y : ByteArray} (hx : x ∈ a) (hy : y ∈ b) (h : p x y = true) : someM p a b = true := List.any_eq_true.2 ⟨x, hx, List.any_eq_true.2 ⟨y, hy, h⟩⟩
set_option maxRecDepth 100000 in
set_option maxHeartbeats 8000000 in
theorem ralike_any (a b : CardM) (w : World) (ha : a.Ok w w.heap.size) (hb : b.Ok w w.heap.size) (sa : SmallK a) (sb : SmallK b) :
    Calls Tryz.prog 21 #[a.val, b.val] w fun e w' => e = .returned (.bool (alikeB a b)) ∧ Below w.heap.size w w' := by
  have CA2 : Kept (∀ W : World, Below w.heap.size w W → Calls Tryz.prog 47 #[a.val, .int .u8 2] W (strE.Gives 9 W (textsF 2 a.ls))) := ⟨fun W h => rtexts_any a 2 W (ha.next h) sa.1 fun z hz => (sa.2 z hz).2.1⟩
  have CB2 : Kept (∀ W : World, Below w.heap.size w W → Calls Tryz.prog 47 #[b.val, .int .u8 2] W (strE.Gives 9 W (textsF 2 b.ls))) := ⟨fun W h => rtexts_any b 2 W (hb.next h) sb.1 fun z hz => (sb.2 z hz).2.1⟩
  have CA3 : Kept (∀ W : World, Below w.heap.size w W → Calls Tryz.prog 47 #[a.val, .int .u8 3] W (strE.Gives 9 W (textsF 3 a.ls))) := ⟨fun W h => rtexts_any a 3 W (ha.next h) sa.1 fun z hz => (sa.2 z hz).2.1⟩
  have CB3 : Kept (∀ W : World, Below w.heap.size w W → Calls Tryz.prog 47 #[b.val, .int .u8 3] W (strE.Gives 9 W (textsF 3 b.ls))) := ⟨fun W h => rtexts_any b 3 W (hb.next h) sb.1 fun z hz => (sb.2 z hz).2.1⟩
  have CTA := kept (fun (W : World) (h : Below w.heap.size w W) => rtitle_any a W (ha.next h))
  have CTB := kept (fun (W : World) (h : Below w.heap.size w W) => rtitle_any b W (hb.next h))
  have CFA := kept (fun (W : World) => rfold_any (titleOf a.ls) W sa.title)
  have CFB := kept (fun (W : World) => rfold_any (titleOf b.ls) W sb.title)
  have la2l := sa.len 2
  have lb2l := sb.len 2
  have la3l := sa.len 3
  have lb3l := sb.len 3
  have SA2 := kept (sa.size 2)
  have SB2 := kept (sb.size 2)
  have SA3 := kept (sa.size 3)
  have SB3 := kept (sb.size 3)
  obtain ⟨acid, aX, als, ac⟩ := a
  obtain ⟨bcid, bX, bls, bc⟩ := b
  unfold alikeB
  clear ha hb sa sb
  have hb0 : Below w.heap.size w ((w.alloc (.cells #[.int .u64 (acid : Int), .slice aX als.length ac] 31)).alloc (.cells #[.int .u64 (bcid : Int), .slice bX bls.length bc] 31)) := ((Below.refl _ _).alloc (Nat.le_refl _) _).alloc (by simp) _
  have hka : Blk ((w.alloc (.cells #[.int .u64 (acid : Int), .slice aX als.length ac] 31)).alloc (.cells #[.int .u64 (bcid : Int), .slice bX bls.length bc] 31)) w.heap.size [.int .u64 (acid : Int), .slice aX als.length ac] 31 := (Blk.new w _ _).alloc _
  have hkb : Blk ((w.alloc (.cells #[.int .u64 (acid : Int), .slice aX als.length ac] 31)).alloc (.cells #[.int .u64 (bcid : Int), .slice bX bls.length bc] 31)) (w.heap.size + 1) [.int .u64 (bcid : Int), .slice bX bls.length bc] 31 := Blk.newAt _ _ _ (by simp)
  unfold CardM.val at CA2 CB2 CA3 CB3 CTA CTB
  unfold CardM.val
  dsimp only at CA2 CB2 CA3 CB3 CTA CTB CFA CFB la2l lb2l la3l lb3l SA2 SB2 SA3 SB3 ⊢
  have HT2 := kept (fun x y => some_true (p := Phone.sameB) (a := textsF 2 als) (b := textsF 2 bls) (x := x) (y := y))
  have HT3 := kept (fun x y => some_true (p := mailB) (a := textsF 3 als) (b := textsF 3 bls) (x := x) (y := y))
  have HF2 : Kept (∀ k, k = (textsF 2 als).length → ((textsF 2 als).take k).any (fun x => (textsF 2 bls).any fun y => Phone.sameB x y) = false → someM Phone.sameB (textsF 2 als) (textsF 2 bls) = false) := ⟨fun k hk h => by rw [List.take_of_length_le (by omega)] at h; exact h⟩
  have HF3 : Kept (∀ k, k = (textsF 3 als).length → ((textsF 3 als).take k).any (fun x => (textsF 3 bls).any fun y => mailB x y) = false → someM mailB (textsF 3 als) (textsF 3 bls) = false) := ⟨fun k hk h => by rw [List.take_of_length_le (by omega)] at h; exact h⟩
  generalize someM Phone.sameB (textsF 2 als) (textsF 2 bls) = p at *
  generalize someM mailB (textsF 3 als) (textsF 3 bls) = q at *
  generalize textsF 2 als = la2 at *
  generalize textsF 2 bls = lb2 at *
  generalize textsF 3 als = la3 at *
  generalize textsF 3 bls = lb3 at *
  generalize titleOf als = ta at *
  generalize titleOf bls = tb at *
  generalize foldB ta = fa at *
  generalize foldB tb = fb at *
  have HRES : Kept (∀ v : Bool, (p || q || (decide (fa ≠ ⟨#[]⟩) && decide (fa = fb))) = v → (.returned (.bool v) : Ending) = .returned (.bool (p || q || (decide (fa ≠ ⟨#[]⟩) && decide (fa = fb))))) := ⟨fun v h => by rw [h]⟩
  go_enter Tryz.func21, Tryz.ntmps21
  go_upto_region 1 with fail
  generalize hwv : (w.alloc (.cells #[.int .u64 (acid : Int), .slice aX als.length ac] 31)).alloc (.cells #[.int .u64 (bcid : Int), .slice bX bls.length bc] 31) = wv at *
  clear hwv
  have HB0 := kept hb0
  have HKA := kept hka
  have HKB := kept hkb
  clear hb0 hka hkb
  have HW : Kept (∀ W, Below wv.heap.size wv W → Below w.heap.size w W) := ⟨fun W h => HB0.out.trans (h.mono HB0.out.size)⟩
  have HS : Kept (∀ W, Below wv.heap.size wv W → W.cell? ⟨w.heap.size, 0, none⟩ = some (.int .u64 (acid : Int)) ∧ W.cell? ⟨w.heap.size, 1, none⟩ = some (.slice aX als.length ac) ∧ W.cell? ⟨w.heap.size + 1, 0, none⟩ = some (.int .u64 (bcid : Int)) ∧ W.cell? ⟨w.heap.size + 1, 1, none⟩ = some (.slice bX bls.length bc)) := ⟨fun W h => ⟨(HKA.out.next h).cell (j := 0) rfl, (HKA.out.next h).cell (j := 1) rfl, (HKB.out.next h).cell (j := 0) rfl, (HKB.out.next h).cell (j := 1) rfl⟩⟩
  go_cut [5, 6] (fun x y wr => ∃ (A1 : Option Addr) (c1 : Nat) (A2 : Option Addr) (c2 : Nat), x = .slice A1 la2.length c1 ∧ y = .slice A2 lb2.length c2 ∧ Kept (Below wv.heap.size wv wr ∧ strE.Rd wr wr.heap.size A1 la2 ∧ strE.Rd wr wr.heap.size A2 lb2))
  case first =>
    have hd0 : Below wv.heap.size wv wv := Below.refl _ _
    clear HT2 HT3 HF2 HF3 HRES CA3 CB3 CTA CTB CFA CFB SA2 SB2 SA3 SB3
    refine wp_region_noPanic ?_
    refine wp_region_held_drew (S := fun W => W.cell? ⟨w.heap.size, 0, none⟩ = some (.int .u64 (acid : Int)) ∧ W.cell? ⟨w.heap.size, 1, none⟩ = some (.slice aX als.length ac) ∧ W.cell? ⟨w.heap.size + 1, 0, none⟩ = some (.int .u64 (bcid : Int)) ∧ W.cell? ⟨w.heap.size + 1, 1, none⟩ = some (.slice bX bls.length bc)) (by kernel_rfl) (HS.out _ (by (repeat (first | with_reducible assumption | with_reducible refine below_new ?_ _ | with_reducible refine Below.drew ?_ | with_reducible exact Below.refl _ _)))) (fun hS0 => ?_)
    refine wpAnyH_take (i := 0) (v := ?_) rfl (by kernel_rfl) (by kernel_rfl) (by kernel_rfl) (fun _ _ _ h => h) (Or.inl ⟨by rfl, ?_⟩) hS0 ?_
    case refine_2 => (intro W hSW; obtain ⟨z0, z1, z2, z3⟩ := hSW; go_simp; try with_reducible rfl)
    try simp only [Act.put, List.setIfInBounds_toArray, List.set_cons_zero, List.set_cons_succ, List.getElem_toArray, List.getElem_cons_zero, List.getElem_cons_succ]
    refine wpAnyH_take (i := 2) (v := ?_) rfl (by kernel_rfl) (by kernel_rfl) (by kernel_rfl) (fun _ _ _ h => h) (Or.inl ⟨by rfl, ?_⟩) hS0 ?_
    case refine_2 => (intro W hSW; obtain ⟨z0, z1, z2, z3⟩ := hSW; go_simp; try with_reducible rfl)
    try simp only [Act.put, List.setIfInBounds_toArray, List.set_cons_zero, List.set_cons_succ, List.getElem_toArray, List.getElem_cons_zero, List.getElem_cons_succ]
    refine wpAnyH_ready (rs := [1]) (by kernel_rfl) (by simp) ?_
    refine AllReadyH.cons rfl (fun K' hK => ?_) AllReadyH.nil
    go_simp
    go_at_call 47
    refine (CA2.out _ (HW.out _ (by (repeat (first | with_reducible assumption | with_reducible refine below_new ?_ _ | with_reducible refine Below.drew ?_ | with_reducible exact Below.refl _ _))))).mono ?_
    rintro e x1 ⟨A1, c1, rfl, ho1, hcp1, hx1⟩
    have hk1 : Below wv.heap.size wv x1 := below_next (by (repeat (first | with_reducible assumption | with_reducible refine below_new ?_ _ | with_reducible refine Below.drew ?_ | with_reducible exact Below.refl _ _))) hx1
    have hr1 := ho1.rd
    clear ho1
    try simp only [Act.put, List.setIfInBounds_toArray, List.set_cons_zero, List.set_cons_succ, List.getElem_toArray, List.getElem_cons_zero, List.getElem_cons_succ]
    refine hK.out _ _ (HS.out x1 hk1) (fun hS0 => ?_)
    refine wpAnyH_ready (rs := [3]) (by kernel_rfl) (by simp) ?_
    refine AllReadyH.cons rfl (fun K' hK => ?_) AllReadyH.nil
    go_simp
    go_at_call 47
    refine (CB2.out _ (HW.out _ (by (repeat (first | with_reducible assumption | with_reducible refine below_new ?_ _ | with_reducible refine Below.drew ?_ | with_reducible exact Below.refl _ _))))).mono ?_
    rintro e x2 ⟨A2, c2, rfl, ho2, hcp2, hx2⟩
    have hk2 : Below wv.heap.size wv x2 := below_next (by (repeat (first | with_reducible assumption | with_reducible refine below_new ?_ _ | with_reducible refine Below.drew ?_ | with_reducible exact Below.refl _ _))) hx2
    have hr2 := ho2.rd
    clear ho2
    try simp only [Act.put, List.setIfInBounds_toArray, List.set_cons_zero, List.set_cons_succ, List.getElem_toArray, List.getElem_cons_zero, List.getElem_cons_succ]
    refine hK.out _ _ (HS.out x2 hk2) (fun hS0 => ?_)
    have hkk : Below wv.heap.size wv x2 := hk2
    have hr1 := hr1.next hx2
    refine wpAnyH_take (i := 4) (v := ?_) rfl (by kernel_rfl) (by kernel_rfl) (by kernel_rfl) (fun _ _ _ h => h) (Or.inl ⟨by rfl, ?_⟩) hS0 ?_
    case refine_2 => (intro W hSW; go_simp; try with_reducible rfl)
    try simp only [Act.put, List.setIfInBounds_toArray, List.set_cons_zero, List.set_cons_succ, List.getElem_toArray, List.getElem_cons_zero, List.getElem_cons_succ]
    refine wpAnyH_take (i := 5) (v := ?_) rfl (by kernel_rfl) (by kernel_rfl) (by kernel_rfl) (fun _ _ _ h => h) (Or.inl ⟨by rfl, ?_⟩) hS0 ?_
    case refine_2 => (intro W hSW; go_simp; try with_reducible rfl)
    try simp only [Act.put, List.setIfInBounds_toArray, List.set_cons_zero, List.set_cons_succ, List.getElem_toArray, List.getElem_cons_zero, List.getElem_cons_succ]
    refine wpAnyH_done (by kernel_rfl) (NoPanic.normal ?_) _
    go_wp2_with fail
    go_meet
    exact ⟨A1, c1, A2, c2, rfl, rfl, ⟨hkk, hr1, hr2⟩⟩
  case rest =>
    obtain ⟨A1, c1, A2, c2, rfl, rfl, hcut⟩ := hcut
    obtain ⟨w2, hw2⟩ : ∃ w2 : World, w2 = wc := ⟨_, rfl⟩
    rw [← hw2] at hcut ⊢
    clear hw2 CA2 CB2
    have HB2 := kept hcut.out.1
    have HRA := kept (fun (W : World) (h : Below w2.heap.size w2 W) => hcut.out.2.1.next h)
    have HRB := kept (fun (W : World) (h : Below w2.heap.size w2 W) => hcut.out.2.2.next h)
    have HV : Kept (∀ W, Below w2.heap.size w2 W → Below wv.heap.size wv W) := ⟨fun W h => HB2.out.trans (h.mono HB2.out.size)⟩
    have hw0 : Kept (Below w2.heap.size w2 w2) := ⟨Below.refl _ _⟩
    clear hcut
    go_wp2_with fail
    go_loopw [7] (fun i wr => ∃ k : Nat, k ≤ la2.length ∧ i = .int .i64 (k : Int) ∧ Kept ((la2.take k).any (fun x => lb2.any fun y => Phone.sameB x y) = false) ∧ Kept (Below w2.heap.size w2 wr)) (fun i _ => la2.length - (intOf i).toNat)
    case atStart => exact ⟨0, Nat.zero_le _, rfl, ⟨rfl⟩, hw0⟩
    case round =>
      clear hw0
      obtain ⟨k, hk, rfl, HN, HBW⟩ := hrel
      by_cases hlt : k < la2.length
      · have hkn : (k : Int) < (la2.length : Int) := by omega
        obtain ⟨x, hx⟩ : ∃ x, la2[k]? = some x := ⟨_, List.getElem?_eq_getElem hlt⟩
        obtain ⟨b1, o1, rfl, hb1, hc1⟩ := (HRA.out w2 (Below.refl _ _)).at_ hx
        have x0 := hc1 0 _ rfl
        rw [show k * strE.k + 0 = k from Nat.mul_one k] at x0
        have HX0 := kept (fun (W : World) (h : Below w2.heap.size w2 W) => (h.cell (p := ⟨b1, o1 + k, none⟩) hb1).trans x0)
        have HTK := kept (take_any (fun x => lb2.any fun y => Phone.sameB x y) hx)
        have sx := SA2.out x (List.mem_of_getElem? hx)
        have HSM : Kept (∀ y, y ∈ lb2 → Phone.sameB x y = true → p = true) := ⟨fun y hy h => HT2.out x y (List.mem_of_getElem? hx) hy h⟩
        clear hc1 hx x0
        go_wp2_with fail
        go_loopw [8] (fun i wr2 => ∃ j : Nat, j ≤ lb2.length ∧ i = .int .i64 (j : Int) ∧ Kept ((lb2.take j).any (fun y => Phone.sameB x y) = false) ∧ Kept (Below w2.heap.size w2 wr2)) (fun i _ => lb2.length - (intOf i).toNat)
        case atStart => exact ⟨0, Nat.zero_le _, rfl, ⟨rfl⟩, HBW⟩
        case round =>
          clear HBW
          obtain ⟨j, hj, rfl, HJ, HBW⟩ := hrel
          by_cases hlj : j < lb2.length
          · have hjn : (j : Int) < (lb2.length : Int) := by omega
            obtain ⟨y, hy⟩ : ∃ y, lb2[j]? = some y := ⟨_, List.getElem?_eq_getElem hlj⟩
            obtain ⟨b2, o2, rfl, hb2, hc2⟩ := (HRB.out w2 (Below.refl _ _)).at_ hy
            have y0 := hc2 0 _ rfl
            rw [show j * strE.k + 0 = j from Nat.mul_one j] at y0
            have HC : Kept (∀ W, Below wr.heap.size wr W → W.cell? ⟨b1, o1 + k, none⟩ = some (.string x) ∧ W.cell? ⟨b2, o2 + j, none⟩ = some (.string y)) := ⟨fun W h => ⟨HX0.out W (HBW.out.trans (h.mono HBW.out.size)), ((HBW.out.trans (h.mono HBW.out.size)).cell (p := ⟨b2, o2 + j, none⟩) hb2).trans y0⟩⟩
            have HTJ := kept (take_any (fun y => Phone.sameB x y) hy)
            have HSY := kept (HSM.out y (List.mem_of_getElem? hy))
            have CS := kept (fun W => Phone.rsame_any x y W sx (SB2.out y (List.mem_of_getElem? hy)))
            clear hc2 hy y0
            generalize hp : Phone.sameB x y = pp at *
            clear hp
            go_upto_region 8 with fail
            go_cut [36] (fun v wr' => v = .bool pp ∧ Kept (Below wr.heap.size wr wr'))
            case first =>
              have hd0 : Below wr.heap.size wr wr := Below.refl _ _
              clear HTJ HSY HTK HSM HN HJ HRA HRB HX0 HV HF2 HF3 HT2 HT3
              refine wp_region_noPanic ?_
              refine wp_region_held_drew (S := fun W => W.cell? ⟨b1, o1 + k, none⟩ = some (.string x) ∧ W.cell? ⟨b2, o2 + j, none⟩ = some (.string y)) (by kernel_rfl) (HC.out _ (by (repeat (first | with_reducible assumption | with_reducible refine below_new ?_ _ | with_reducible refine Below.drew ?_ | with_reducible exact Below.refl _ _)))) (fun hS0 => ?_)
              refine wpAnyH_take (i := 0) (v := ?_) rfl (by kernel_rfl) (by kernel_rfl) (by kernel_rfl) (fun _ _ _ h => h) (Or.inl ⟨by rfl, ?_⟩) hS0 ?_
              case refine_2 => (intro W hSW; go_simp; try with_reducible rfl)
              try simp only [Act.put, List.setIfInBounds_toArray, List.set_cons_zero, List.set_cons_succ, List.getElem_toArray, List.getElem_cons_zero, List.getElem_cons_succ]
              refine wpAnyH_take (i := 1) (v := ?_) rfl (by kernel_rfl) (by kernel_rfl) (by kernel_rfl) (fun _ _ _ h => h) (Or.inl ⟨by rfl, ?_⟩) hS0 ?_
              case refine_2 => (intro W hSW; go_simp; try with_reducible rfl)
              try simp only [Act.put, List.setIfInBounds_toArray, List.set_cons_zero, List.set_cons_succ, List.getElem_toArray, List.getElem_cons_zero, List.getElem_cons_succ]
              refine wpAnyH_take (i := 2) (v := ?_) rfl (by kernel_rfl) (by kernel_rfl) (by kernel_rfl) (fun _ _ _ h => h) (Or.inl ⟨by rfl, ?_⟩) hS0 ?_
              case refine_2 => (intro W hSW; go_simp; try with_reducible rfl)
              try simp only [Act.put, List.setIfInBounds_toArray, List.set_cons_zero, List.set_cons_succ, List.getElem_toArray, List.getElem_cons_zero, List.getElem_cons_succ]
              refine wpAnyH_take (i := 3) (v := ?_) rfl (by kernel_rfl) (by kernel_rfl) (by kernel_rfl) (fun _ _ _ h => h) (Or.inl ⟨by rfl, ?_⟩) hS0 ?_
              case refine_2 => (intro W hSW; obtain ⟨z0, z1⟩ := hSW; go_simp; try with_reducible rfl)
              try simp only [Act.put, List.setIfInBounds_toArray, List.set_cons_zero, List.set_cons_succ, List.getElem_toArray, List.getElem_cons_zero, List.getElem_cons_succ]
              refine wpAnyH_take (i := 4) (v := ?_) rfl (by kernel_rfl) (by kernel_rfl) (by kernel_rfl) (fun _ _ _ h => h) (Or.inl ⟨by rfl, ?_⟩) hS0 ?_
              case refine_2 => (intro W hSW; go_simp; try with_reducible rfl)
              try simp only [Act.put, List.setIfInBounds_toArray, List.set_cons_zero, List.set_cons_succ, List.getElem_toArray, List.getElem_cons_zero, List.getElem_cons_succ]
              refine wpAnyH_take (i := 5) (v := ?_) rfl (by kernel_rfl) (by kernel_rfl) (by kernel_rfl) (fun _ _ _ h => h) (Or.inl ⟨by rfl, ?_⟩) hS0 ?_
              case refine_2 => (intro W hSW; go_simp; try with_reducible rfl)
              try simp only [Act.put, List.setIfInBounds_toArray, List.set_cons_zero, List.set_cons_succ, List.getElem_toArray, List.getElem_cons_zero, List.getElem_cons_succ]
              refine wpAnyH_take (i := 6) (v := ?_) rfl (by kernel_rfl) (by kernel_rfl) (by kernel_rfl) (fun _ _ _ h => h) (Or.inl ⟨by rfl, ?_⟩) hS0 ?_
              case refine_2 => (intro W hSW; go_simp; try with_reducible rfl)
              try simp only [Act.put, List.setIfInBounds_toArray, List.set_cons_zero, List.set_cons_succ, List.getElem_toArray, List.getElem_cons_zero, List.getElem_cons_succ]
              refine wpAnyH_take (i := 7) (v := ?_) rfl (by kernel_rfl) (by kernel_rfl) (by kernel_rfl) (fun _ _ _ h => h) (Or.inl ⟨by rfl, ?_⟩) hS0 ?_
              case refine_2 => (intro W hSW; obtain ⟨z0, z1⟩ := hSW; go_simp; try with_reducible rfl)
              try simp only [Act.put, List.setIfInBounds_toArray, List.set_cons_zero, List.set_cons_succ, List.getElem_toArray, List.getElem_cons_zero, List.getElem_cons_succ]
              refine wpAnyH_ready (rs := [8]) (by kernel_rfl) (by simp) ?_
              refine AllReadyH.cons rfl (fun K' hK => ?_) AllReadyH.nil
              go_simp
              go_at_call 48
              refine (CS.out _).mono ?_
              rintro e x1 ⟨rfl, hx1⟩
              have hk1 : Below wr.heap.size wr x1 := below_next (by (repeat (first | with_reducible assumption | with_reducible refine below_new ?_ _ | with_reducible refine Below.drew ?_ | with_reducible exact Below.refl _ _))) hx1
              try simp only [Act.put, List.setIfInBounds_toArray, List.set_cons_zero, List.set_cons_succ, List.getElem_toArray, List.getElem_cons_zero, List.getElem_cons_succ]
              refine hK.out _ _ (HC.out x1 hk1) (fun hS0 => ?_)
              refine wpAnyH_done (by kernel_rfl) (NoPanic.normal ?_) _
              go_wp2_with fail
              go_meet
              exact ⟨by first | rfl | simp, ⟨hk1⟩⟩
            case rest =>
              obtain ⟨rfl, hcut⟩ := hcut
              have HB3 := kept (HBW.out.trans (hcut.out.mono HBW.out.size))
              obtain ⟨w4, hw4⟩ : ∃ w4 : World, w4 = wc := ⟨_, rfl⟩
              rw [← hw4] at HB3 ⊢
              clear hw4 hcut HC CS HBW
              cases pp with
              | true =>
                have hpt := HSY.out rfl
                go_wp2_with fail
                go_ret
                exact ⟨rfl, HW.out _ (HV.out _ HB3.out)⟩
              | false =>
                have HJ2 : Kept ((lb2.take (j + 1)).any (fun y => Phone.sameB x y) = false) := ⟨by rw [HTJ.out, HJ.out]; rfl⟩
                clear HTJ HJ HSY
                go_wp2_with fail
                go_roundw
                case rel => exact ⟨j + 1, by omega, by go_num, HJ2, HB3⟩
                case measure => simp [intOf]; omega
          · obtain rfl : j = lb2.length := by omega
            have hge : ¬ (lb2.length : Int) < (lb2.length : Int) := by omega
            have HN2 : Kept ((la2.take (k + 1)).any (fun x => lb2.any fun y => Phone.sameB x y) = false) := ⟨by
              have := HJ.out
              rw [List.take_of_length_le (Nat.le_refl _)] at this
              rw [HTK.out, HN.out, this]; rfl⟩
            clear HTK HN HJ
            go_wp2_with fail
            go_roundw
            case rel => exact ⟨k + 1, by omega, by go_num, HN2, HBW⟩
            case measure => simp [intOf]; omega
      · obtain rfl : k = la2.length := by omega
        have hge : ¬ (la2.length : Int) < (la2.length : Int) := by omega
        have hpf := HF2.out _ rfl HN.out
        have HRES2 : Kept (∀ v : Bool, (q || (decide (fa ≠ ⟨#[]⟩) && decide (fa = fb))) = v → (.returned (.bool v) : Ending) = .returned (.bool (p || q || (decide (fa ≠ ⟨#[]⟩) && decide (fa = fb))))) := ⟨fun v h => HRES.out v (by rw [hpf, Bool.false_or]; exact h)⟩
        clear hpf HN HF2 HT2 HRES HRA HRB SA2 SB2
        obtain ⟨w3, hw3⟩ : ∃ w3 : World, w3 = wr := ⟨_, rfl⟩
        rw [← hw3] at HBW ⊢
        clear hw3
        have HW3 : Kept (∀ W, Below w3.heap.size w3 W → Below w.heap.size w W) := ⟨fun W h => HW.out _ (HV.out _ (HBW.out.trans (h.mono HBW.out.size)))⟩
        have HS3 : Kept (∀ W, Below w3.heap.size w3 W → W.cell? ⟨w.heap.size, 0, none⟩ = some (.int .u64 (acid : Int)) ∧ W.cell? ⟨w.heap.size, 1, none⟩ = some (.slice aX als.length ac) ∧ W.cell? ⟨w.heap.size + 1, 0, none⟩ = some (.int .u64 (bcid : Int)) ∧ W.cell? ⟨w.heap.size + 1, 1, none⟩ = some (.slice bX bls.length bc)) := ⟨fun W h => HS.out _ (HV.out _ (HBW.out.trans (h.mono HBW.out.size)))⟩
        have HKA3 := kept (fun (W : World) (h : Below w3.heap.size w3 W) => HKA.out.next (HV.out _ (HBW.out.trans (h.mono HBW.out.size))))
        have HKB3 := kept (fun (W : World) (h : Below w3.heap.size w3 W) => HKB.out.next (HV.out _ (HBW.out.trans (h.mono HBW.out.size))))
        clear HW HS HKA HKB HV HB2 HBW HB0 wr
        have HW := HW3
        have HS := HS3
        clear HW3 HS3
        go_upto_region 10 with fail
        go_cut [5, 6] (fun x y wr => ∃ (A1 : Option Addr) (c1 : Nat) (A2 : Option Addr) (c2 : Nat), x = .slice A1 la3.length c1 ∧ y = .slice A2 lb3.length c2 ∧ Kept (Below w3.heap.size w3 wr ∧ strE.Rd wr wr.heap.size A1 la3 ∧ strE.Rd wr wr.heap.size A2 lb3))
        case first =>
          have hd0 : Below w3.heap.size w3 w3 := Below.refl _ _
          clear HT3 HF3 HRES2 CTA CTB CFA CFB SA3 SB3 HKA3 HKB3
          refine wp_region_noPanic ?_
          refine wp_region_held_drew (S := fun W => W.cell? ⟨w.heap.size, 0, none⟩ = some (.int .u64 (acid : Int)) ∧ W.cell? ⟨w.heap.size, 1, none⟩ = some (.slice aX als.length ac) ∧ W.cell? ⟨w.heap.size + 1, 0, none⟩ = some (.int .u64 (bcid : Int)) ∧ W.cell? ⟨w.heap.size + 1, 1, none⟩ = some (.slice bX bls.length bc)) (by kernel_rfl) (HS.out _ (by (repeat (first | with_reducible assumption | with_reducible refine below_new ?_ _ | with_reducible refine Below.drew ?_ | with_reducible exact Below.refl _ _)))) (fun hS0 => ?_)
          refine wpAnyH_take (i := 0) (v := ?_) rfl (by kernel_rfl) (by kernel_rfl) (by kernel_rfl) (fun _ _ _ h => h) (Or.inl ⟨by rfl, ?_⟩) hS0 ?_
          case refine_2 => (intro W hSW; obtain ⟨z0, z1, z2, z3⟩ := hSW; go_simp; try with_reducible rfl)
          try simp only [Act.put, List.setIfInBounds_toArray, List.set_cons_zero, List.set_cons_succ, List.getElem_toArray, List.getElem_cons_zero, List.getElem_cons_succ]
          refine wpAnyH_take (i := 2) (v := ?_) rfl (by kernel_rfl) (by kernel_rfl) (by kernel_rfl) (fun _ _ _ h => h) (Or.inl ⟨by rfl, ?_⟩) hS0 ?_
          case refine_2 => (intro W hSW; obtain ⟨z0, z1, z2, z3⟩ := hSW; go_simp; try with_reducible rfl)
          try simp only [Act.put, List.setIfInBounds_toArray, List.set_cons_zero, List.set_cons_succ, List.getElem_toArray, List.getElem_cons_zero, List.getElem_cons_succ]
          refine wpAnyH_ready (rs := [1]) (by kernel_rfl) (by simp) ?_
          refine AllReadyH.cons rfl (fun K' hK => ?_) AllReadyH.nil
          go_simp
          go_at_call 47
          refine (CA3.out _ (HW.out _ (by (repeat (first | with_reducible assumption | with_reducible refine below_new ?_ _ | with_reducible refine Below.drew ?_ | with_reducible exact Below.refl _ _))))).mono ?_
          rintro e x1 ⟨A1, c1, rfl, ho1, hcp1, hx1⟩
          have hk1 : Below w3.heap.size w3 x1 := below_next (by (repeat (first | with_reducible assumption | with_reducible refine below_new ?_ _ | with_reducible refine Below.drew ?_ | with_reducible exact Below.refl _ _))) hx1
          have hr1 := ho1.rd
          clear ho1
          try simp only [Act.put, List.setIfInBounds_toArray, List.set_cons_zero, List.set_cons_succ, List.getElem_toArray, List.getElem_cons_zero, List.getElem_cons_succ]
          refine hK.out _ _ (HS.out x1 hk1) (fun hS0 => ?_)
          refine wpAnyH_ready (rs := [3]) (by kernel_rfl) (by simp) ?_
          refine AllReadyH.cons rfl (fun K' hK => ?_) AllReadyH.nil
          go_simp
          go_at_call 47
          refine (CB3.out _ (HW.out _ (by (repeat (first | with_reducible assumption | with_reducible refine below_new ?_ _ | with_reducible refine Below.drew ?_ | with_reducible exact Below.refl _ _))))).mono ?_
          rintro e x2 ⟨A2, c2, rfl, ho2, hcp2, hx2⟩
          have hk2 : Below w3.heap.size w3 x2 := below_next (by (repeat (first | with_reducible assumption | with_reducible refine below_new ?_ _ | with_reducible refine Below.drew ?_ | with_reducible exact Below.refl _ _))) hx2
          have hr2 := ho2.rd
          clear ho2
          try simp only [Act.put, List.setIfInBounds_toArray, List.set_cons_zero, List.set_cons_succ, List.getElem_toArray, List.getElem_cons_zero, List.getElem_cons_succ]
          refine hK.out _ _ (HS.out x2 hk2) (fun hS0 => ?_)
          have hkk : Below w3.heap.size w3 x2 := hk2
          have hr1 := hr1.next hx2
          refine wpAnyH_take (i := 4) (v := ?_) rfl (by kernel_rfl) (by kernel_rfl) (by kernel_rfl) (fun _ _ _ h => h) (Or.inl ⟨by rfl, ?_⟩) hS0 ?_
          case refine_2 => (intro W hSW; go_simp; try with_reducible rfl)
          try simp only [Act.put, List.setIfInBounds_toArray, List.set_cons_zero, List.set_cons_succ, List.getElem_toArray, List.getElem_cons_zero, List.getElem_cons_succ]
          refine wpAnyH_take (i := 5) (v := ?_) rfl (by kernel_rfl) (by kernel_rfl) (by kernel_rfl) (fun _ _ _ h => h) (Or.inl ⟨by rfl, ?_⟩) hS0 ?_
          case refine_2 => (intro W hSW; go_simp; try with_reducible rfl)
          try simp only [Act.put, List.setIfInBounds_toArray, List.set_cons_zero, List.set_cons_succ, List.getElem_toArray, List.getElem_cons_zero, List.getElem_cons_succ]
          refine wpAnyH_done (by kernel_rfl) (NoPanic.normal ?_) _
          go_wp2_with fail
          go_meet
          exact ⟨A1, c1, A2, c2, rfl, rfl, ⟨hkk, hr1, hr2⟩⟩
        case rest =>
          obtain ⟨A1, c1, A2, c2, rfl, rfl, hcut⟩ := hcut
          obtain ⟨w5, hw5⟩ : ∃ w5 : World, w5 = wc := ⟨_, rfl⟩
          rw [← hw5] at hcut ⊢
          clear hw5 CA3 CB3
          have HB2 := kept hcut.out.1
          have HRA := kept (fun (W : World) (h : Below w5.heap.size w5 W) => hcut.out.2.1.next h)
          have HRB := kept (fun (W : World) (h : Below w5.heap.size w5 W) => hcut.out.2.2.next h)
          have HV : Kept (∀ W, Below w5.heap.size w5 W → Below w3.heap.size w3 W) := ⟨fun W h => HB2.out.trans (h.mono HB2.out.size)⟩
          have hw0 : Kept (Below w5.heap.size w5 w5) := ⟨Below.refl _ _⟩
          clear hcut
          go_wp2_with fail
          go_loopw [9] (fun i wr => ∃ k : Nat, k ≤ la3.length ∧ i = .int .i64 (k : Int) ∧ Kept ((la3.take k).any (fun x => lb3.any fun y => mailB x y) = false) ∧ Kept (Below w5.heap.size w5 wr)) (fun i _ => la3.length - (intOf i).toNat)
          case atStart => exact ⟨0, Nat.zero_le _, rfl, ⟨rfl⟩, hw0⟩
          case round =>
            clear hw0
            obtain ⟨k, hk, rfl, HN, HBW⟩ := hrel
            by_cases hlt : k < la3.length
            · have hkn : (k : Int) < (la3.length : Int) := by omega
              obtain ⟨x, hx⟩ : ∃ x, la3[k]? = some x := ⟨_, List.getElem?_eq_getElem hlt⟩
              obtain ⟨b1, o1, rfl, hb1, hc1⟩ := (HRA.out w5 (Below.refl _ _)).at_ hx
              have x0 := hc1 0 _ rfl
              rw [show k * strE.k + 0 = k from Nat.mul_one k] at x0
              have HX0 := kept (fun (W : World) (h : Below w5.heap.size w5 W) => (h.cell (p := ⟨b1, o1 + k, none⟩) hb1).trans x0)
              have HTK := kept (take_any (fun x => lb3.any fun y => mailB x y) hx)
              have sx := SA3.out x (List.mem_of_getElem? hx)
              have HSM : Kept (∀ y, y ∈ lb3 → mailB x y = true → q = true) := ⟨fun y hy h => HT3.out x y (List.mem_of_getElem? hx) hy h⟩
              clear hc1 hx x0
              go_wp2_with fail
              go_loopw [10] (fun i wr2 => ∃ j : Nat, j ≤ lb3.length ∧ i = .int .i64 (j : Int) ∧ Kept ((lb3.take j).any (fun y => mailB x y) = false) ∧ Kept (Below w5.heap.size w5 wr2)) (fun i _ => lb3.length - (intOf i).toNat)
              case atStart => exact ⟨0, Nat.zero_le _, rfl, ⟨rfl⟩, HBW⟩
              case round =>
                clear HBW
                obtain ⟨j, hj, rfl, HJ, HBW⟩ := hrel
                by_cases hlj : j < lb3.length
                · have hjn : (j : Int) < (lb3.length : Int) := by omega
                  obtain ⟨y, hy⟩ : ∃ y, lb3[j]? = some y := ⟨_, List.getElem?_eq_getElem hlj⟩
                  obtain ⟨b2, o2, rfl, hb2, hc2⟩ := (HRB.out w5 (Below.refl _ _)).at_ hy
                  have y0 := hc2 0 _ rfl
                  rw [show j * strE.k + 0 = j from Nat.mul_one j] at y0
                  have HC : Kept (∀ W, Below wr.heap.size wr W → W.cell? ⟨b1, o1 + k, none⟩ = some (.string x) ∧ W.cell? ⟨b2, o2 + j, none⟩ = some (.string y)) := ⟨fun W h => ⟨HX0.out W (HBW.out.trans (h.mono HBW.out.size)), ((HBW.out.trans (h.mono HBW.out.size)).cell (p := ⟨b2, o2 + j, none⟩) hb2).trans y0⟩⟩
                  have HTJ := kept (take_any (fun y => mailB x y) hy)
                  have HSY := kept (HSM.out y (List.mem_of_getElem? hy))
                  have CX := kept (fun W => rsmall_any x W sx)
                  have CY := kept (fun W => rsmall_any y W (SB3.out y (List.mem_of_getElem? hy)))
                  have HME := kept (small_eq x y)
                  have HMD : Kept (mailB x y = (decide (x ≠ ⟨#[]⟩) && eqSmall x y)) := ⟨rfl⟩
                  clear hc2 hy y0
                  generalize hp : mailB x y = pp at *
                  clear hp
                  go_upto_region 17 with fail
                  go_cut [70] (fun v wr' => v = .bool pp ∧ Kept (Below wr.heap.size wr wr'))
                  case first =>
                    have hd0 : Below wr.heap.size wr wr := Below.refl _ _
                    clear HTJ HSY HTK HSM HN HJ HRA HRB HX0 HV HF3 HT3
                    by_cases hx0 : x = ⟨#[]⟩
                    · have HMB : Kept (pp = false) := ⟨by rw [HMD.out, decide_eq_false (fun h => h hx0)]; rfl⟩
                      clear HMD HME CX CY sx
                      subst hx0
                      have hnq : (!((⟨#[]⟩ : ByteArray).toList == [])) = false := by rw [ByteArray.toList_eq]; rfl
                      have hnq2 : ((⟨#[]⟩ : ByteArray).toList != []) = false := by rw [ByteArray.toList_eq]; rfl
                      refine wp_region_noPanic ?_
                      refine wp_region_held_drew (S := fun W => W.cell? ⟨b1, o1 + k, none⟩ = some (.string ⟨#[]⟩) ∧ W.cell? ⟨b2, o2 + j, none⟩ = some (.string y)) (by kernel_rfl) (HC.out _ (by (repeat (first | with_reducible assumption | with_reducible refine below_new ?_ _ | with_reducible refine Below.drew ?_ | with_reducible exact Below.refl _ _)))) (fun hS0 => ?_)
                      refine wpAnyH_take (i := 0) (v := ?_) rfl (by kernel_rfl) (by kernel_rfl) (by kernel_rfl) (fun _ _ _ h => h) (Or.inl ⟨by rfl, ?_⟩) hS0 ?_
                      case refine_2 => (intro W hSW; go_simp; try with_reducible rfl)
                      try simp only [Act.put, List.setIfInBounds_toArray, List.set_cons_zero, List.set_cons_succ, List.getElem_toArray, List.getElem_cons_zero, List.getElem_cons_succ]
                      refine wpAnyH_take (i := 1) (v := ?_) rfl (by kernel_rfl) (by kernel_rfl) (by kernel_rfl) (fun _ _ _ h => h) (Or.inl ⟨by rfl, ?_⟩) hS0 ?_
                      case refine_2 => (intro W hSW; go_simp; try with_reducible rfl)
                      try simp only [Act.put, List.setIfInBounds_toArray, List.set_cons_zero, List.set_cons_succ, List.getElem_toArray, List.getElem_cons_zero, List.getElem_cons_succ]
                      refine wpAnyH_take (i := 2) (v := ?_) rfl (by kernel_rfl) (by kernel_rfl) (by kernel_rfl) (fun _ _ _ h => h) (Or.inl ⟨by rfl, ?_⟩) hS0 ?_
                      case refine_2 => (intro W hSW; go_simp; try with_reducible rfl)
                      try simp only [Act.put, List.setIfInBounds_toArray, List.set_cons_zero, List.set_cons_succ, List.getElem_toArray, List.getElem_cons_zero, List.getElem_cons_succ]
                      refine wpAnyH_take (i := 3) (v := ?_) rfl (by kernel_rfl) (by kernel_rfl) (by kernel_rfl) (fun _ _ _ h => h) (Or.inl ⟨by rfl, ?_⟩) hS0 ?_
                      case refine_2 => (intro W hSW; obtain ⟨z0, z1⟩ := hSW; go_simp; try with_reducible rfl)
                      try simp only [Act.put, List.setIfInBounds_toArray, List.set_cons_zero, List.set_cons_succ, List.getElem_toArray, List.getElem_cons_zero, List.getElem_cons_succ]
                      refine wpAnyH_take (i := 4) (v := ?_) rfl (by kernel_rfl) (by kernel_rfl) (by kernel_rfl) (fun _ _ _ h => h) (Or.inl ⟨by rfl, ?_⟩) hS0 ?_
                      case refine_2 => (intro W hSW; go_simp; try with_reducible rfl)
                      try simp only [Act.put, List.setIfInBounds_toArray, List.set_cons_zero, List.set_cons_succ, List.getElem_toArray, List.getElem_cons_zero, List.getElem_cons_succ]
                      refine wpAnyH_take (i := 5) (v := ?_) rfl (by kernel_rfl) (by kernel_rfl) (by kernel_rfl) (fun _ _ _ h => h) (Or.inl ⟨by rfl, ?_⟩) hS0 ?_
                      case refine_2 => (intro W hSW; go_simp; try with_reducible rfl)
                      try simp only [Act.put, List.setIfInBounds_toArray, List.set_cons_zero, List.set_cons_succ, List.getElem_toArray, List.getElem_cons_zero, List.getElem_cons_succ]
                      refine wpAnyH_take (i := 6) (v := undef) rfl (by kernel_rfl) (by kernel_rfl) (by kernel_rfl) (fun _ _ _ h => h) (Or.inr ⟨by rfl, rfl⟩) hS0 ?_
                      try simp only [Act.put, List.setIfInBounds_toArray, List.set_cons_zero, List.set_cons_succ, List.getElem_toArray, List.getElem_cons_zero, List.getElem_cons_succ]
                      refine wpAnyH_take (i := 7) (v := undef) rfl (by kernel_rfl) (by kernel_rfl) (by kernel_rfl) (fun _ _ _ h => h) (Or.inr ⟨by rfl, rfl⟩) hS0 ?_
                      try simp only [Act.put, List.setIfInBounds_toArray, List.set_cons_zero, List.set_cons_succ, List.getElem_toArray, List.getElem_cons_zero, List.getElem_cons_succ]
                      refine wpAnyH_take (i := 8) (v := undef) rfl (by kernel_rfl) (by kernel_rfl) (by kernel_rfl) (fun _ _ _ h => h) (Or.inr ⟨by rfl, rfl⟩) hS0 ?_
                      try simp only [Act.put, List.setIfInBounds_toArray, List.set_cons_zero, List.set_cons_succ, List.getElem_toArray, List.getElem_cons_zero, List.getElem_cons_succ]
                      refine wpAnyH_take (i := 9) (v := undef) rfl (by kernel_rfl) (by kernel_rfl) (by kernel_rfl) (fun _ _ _ h => h) (Or.inr ⟨by rfl, rfl⟩) hS0 ?_
                      try simp only [Act.put, List.setIfInBounds_toArray, List.set_cons_zero, List.set_cons_succ, List.getElem_toArray, List.getElem_cons_zero, List.getElem_cons_succ]
                      refine wpAnyH_take (i := 10) (v := undef) rfl (by kernel_rfl) (by kernel_rfl) (by kernel_rfl) (fun _ _ _ h => h) (Or.inr ⟨by rfl, rfl⟩) hS0 ?_
                      try simp only [Act.put, List.setIfInBounds_toArray, List.set_cons_zero, List.set_cons_succ, List.getElem_toArray, List.getElem_cons_zero, List.getElem_cons_succ]
                      refine wpAnyH_take (i := 11) (v := undef) rfl (by kernel_rfl) (by kernel_rfl) (by kernel_rfl) (fun _ _ _ h => h) (Or.inr ⟨by rfl, rfl⟩) hS0 ?_
                      try simp only [Act.put, List.setIfInBounds_toArray, List.set_cons_zero, List.set_cons_succ, List.getElem_toArray, List.getElem_cons_zero, List.getElem_cons_succ]
                      refine wpAnyH_take (i := 12) (v := undef) rfl (by kernel_rfl) (by kernel_rfl) (by kernel_rfl) (fun _ _ _ h => h) (Or.inr ⟨by rfl, rfl⟩) hS0 ?_
                      try simp only [Act.put, List.setIfInBounds_toArray, List.set_cons_zero, List.set_cons_succ, List.getElem_toArray, List.getElem_cons_zero, List.getElem_cons_succ]
                      refine wpAnyH_take (i := 13) (v := undef) rfl (by kernel_rfl) (by kernel_rfl) (by kernel_rfl) (fun _ _ _ h => h) (Or.inr ⟨by rfl, rfl⟩) hS0 ?_
                      try simp only [Act.put, List.setIfInBounds_toArray, List.set_cons_zero, List.set_cons_succ, List.getElem_toArray, List.getElem_cons_zero, List.getElem_cons_succ]
                      refine wpAnyH_take (i := 14) (v := undef) rfl (by kernel_rfl) (by kernel_rfl) (by kernel_rfl) (fun _ _ _ h => h) (Or.inr ⟨by rfl, rfl⟩) hS0 ?_
                      try simp only [Act.put, List.setIfInBounds_toArray, List.set_cons_zero, List.set_cons_succ, List.getElem_toArray, List.getElem_cons_zero, List.getElem_cons_succ]
                      refine wpAnyH_take (i := 15) (v := undef) rfl (by kernel_rfl) (by kernel_rfl) (by kernel_rfl) (fun _ _ _ h => h) (Or.inr ⟨by rfl, rfl⟩) hS0 ?_
                      try simp only [Act.put, List.setIfInBounds_toArray, List.set_cons_zero, List.set_cons_succ, List.getElem_toArray, List.getElem_cons_zero, List.getElem_cons_succ]
                      refine wpAnyH_take (i := 16) (v := undef) rfl (by kernel_rfl) (by kernel_rfl) (by kernel_rfl) (fun _ _ _ h => h) (Or.inr ⟨by rfl, rfl⟩) hS0 ?_
                      try simp only [Act.put, List.setIfInBounds_toArray, List.set_cons_zero, List.set_cons_succ, List.getElem_toArray, List.getElem_cons_zero, List.getElem_cons_succ]
                      refine wpAnyH_take (i := 17) (v := ?_) rfl (by kernel_rfl) (by kernel_rfl) (by kernel_rfl) (fun _ _ _ h => h) (Or.inl ⟨by rfl, ?_⟩) hS0 ?_
                      case refine_2 => (intro W hSW; go_simp; try with_reducible rfl)
                      try simp only [Act.put, List.setIfInBounds_toArray, List.set_cons_zero, List.set_cons_succ, List.getElem_toArray, List.getElem_cons_zero, List.getElem_cons_succ]
                      refine wpAnyH_done (by kernel_rfl) (NoPanic.normal ?_) _
                      go_wp2_with fail
                      go_meet
                      exact ⟨by first | rfl | (rw [HMB.out]) | simp, ⟨hd0.drew⟩⟩
                    · have e0 : (x.toList == []) = false := by
                        rw [show ([] : List UInt8) = (⟨#[]⟩ : ByteArray).toList from by rw [ByteArray.toList_eq], str_beq]
                        exact decide_eq_false hx0
                      have e1 : (x.toList != []) = true := by rw [bne, e0]; rfl
                      have hq := str_beq (smallB x) (smallB y)
                      have HMB : Kept (pp = eqSmall x y) := ⟨by rw [HMD.out, decide_eq_true hx0]; rfl⟩
                      rw [HME.out] at hq
                      clear HMD HME hx0
                      generalize smallB x = sx1 at *
                      generalize smallB y = sy1 at *
                      generalize eqSmall x y = qq at *
                      refine wp_region_noPanic ?_
                      refine wp_region_held_drew (S := fun W => W.cell? ⟨b1, o1 + k, none⟩ = some (.string x) ∧ W.cell? ⟨b2, o2 + j, none⟩ = some (.string y)) (by kernel_rfl) (HC.out _ (by (repeat (first | with_reducible assumption | with_reducible refine below_new ?_ _ | with_reducible refine Below.drew ?_ | with_reducible exact Below.refl _ _)))) (fun hS0 => ?_)
                      refine wpAnyH_take (i := 0) (v := ?_) rfl (by kernel_rfl) (by kernel_rfl) (by kernel_rfl) (fun _ _ _ h => h) (Or.inl ⟨by rfl, ?_⟩) hS0 ?_
                      case refine_2 => (intro W hSW; go_simp; try with_reducible rfl)
                      try simp only [Act.put, List.setIfInBounds_toArray, List.set_cons_zero, List.set_cons_succ, List.getElem_toArray, List.getElem_cons_zero, List.getElem_cons_succ]
                      refine wpAnyH_take (i := 1) (v := ?_) rfl (by kernel_rfl) (by kernel_rfl) (by kernel_rfl) (fun _ _ _ h => h) (Or.inl ⟨by rfl, ?_⟩) hS0 ?_
                      case refine_2 => (intro W hSW; go_simp; try with_reducible rfl)
                      try simp only [Act.put, List.setIfInBounds_toArray, List.set_cons_zero, List.set_cons_succ, List.getElem_toArray, List.getElem_cons_zero, List.getElem_cons_succ]
                      refine wpAnyH_take (i := 2) (v := ?_) rfl (by kernel_rfl) (by kernel_rfl) (by kernel_rfl) (fun _ _ _ h => h) (Or.inl ⟨by rfl, ?_⟩) hS0 ?_
                      case refine_2 => (intro W hSW; go_simp; try with_reducible rfl)
                      try simp only [Act.put, List.setIfInBounds_toArray, List.set_cons_zero, List.set_cons_succ, List.getElem_toArray, List.getElem_cons_zero, List.getElem_cons_succ]
                      refine wpAnyH_take (i := 3) (v := ?_) rfl (by kernel_rfl) (by kernel_rfl) (by kernel_rfl) (fun _ _ _ h => h) (Or.inl ⟨by rfl, ?_⟩) hS0 ?_
                      case refine_2 => (intro W hSW; obtain ⟨z0, z1⟩ := hSW; go_simp; try with_reducible rfl)
                      try simp only [Act.put, List.setIfInBounds_toArray, List.set_cons_zero, List.set_cons_succ, List.getElem_toArray, List.getElem_cons_zero, List.getElem_cons_succ]
                      refine wpAnyH_take (i := 4) (v := ?_) rfl (by kernel_rfl) (by kernel_rfl) (by kernel_rfl) (fun _ _ _ h => h) (Or.inl ⟨by rfl, ?_⟩) hS0 ?_
                      case refine_2 => (intro W hSW; go_simp; try with_reducible rfl)
                      try simp only [Act.put, List.setIfInBounds_toArray, List.set_cons_zero, List.set_cons_succ, List.getElem_toArray, List.getElem_cons_zero, List.getElem_cons_succ]
                      refine wpAnyH_take (i := 5) (v := ?_) rfl (by kernel_rfl) (by kernel_rfl) (by kernel_rfl) (fun _ _ _ h => h) (Or.inl ⟨by rfl, ?_⟩) hS0 ?_
                      case refine_2 => (intro W hSW; go_simp; try with_reducible rfl)
                      try simp only [Act.put, List.setIfInBounds_toArray, List.set_cons_zero, List.set_cons_succ, List.getElem_toArray, List.getElem_cons_zero, List.getElem_cons_succ]
                      refine wpAnyH_take (i := 6) (v := ?_) rfl (by kernel_rfl) (by kernel_rfl) (by kernel_rfl) (fun _ _ _ h => h) (Or.inl ⟨by rfl, ?_⟩) hS0 ?_
                      case refine_2 => (intro W hSW; go_simp; try with_reducible rfl)
                      try simp only [Act.put, List.setIfInBounds_toArray, List.set_cons_zero, List.set_cons_succ, List.getElem_toArray, List.getElem_cons_zero, List.getElem_cons_succ]
                      refine wpAnyH_take (i := 7) (v := ?_) rfl (by kernel_rfl) (by kernel_rfl) (by kernel_rfl) (fun _ _ _ h => h) (Or.inl ⟨by rfl, ?_⟩) hS0 ?_
                      case refine_2 => (intro W hSW; go_simp; try with_reducible rfl)
                      try simp only [Act.put, List.setIfInBounds_toArray, List.set_cons_zero, List.set_cons_succ, List.getElem_toArray, List.getElem_cons_zero, List.getElem_cons_succ]
                      refine wpAnyH_take (i := 8) (v := ?_) rfl (by kernel_rfl) (by kernel_rfl) (by kernel_rfl) (fun _ _ _ h => h) (Or.inl ⟨by rfl, ?_⟩) hS0 ?_
                      case refine_2 => (intro W hSW; go_simp; try with_reducible rfl)
                      try simp only [Act.put, List.setIfInBounds_toArray, List.set_cons_zero, List.set_cons_succ, List.getElem_toArray, List.getElem_cons_zero, List.getElem_cons_succ]
                      refine wpAnyH_take (i := 9) (v := ?_) rfl (by kernel_rfl) (by kernel_rfl) (by kernel_rfl) (fun _ _ _ h => h) (Or.inl ⟨by rfl, ?_⟩) hS0 ?_
                      case refine_2 => (intro W hSW; obtain ⟨z0, z1⟩ := hSW; go_simp; try with_reducible rfl)
                      try simp only [Act.put, List.setIfInBounds_toArray, List.set_cons_zero, List.set_cons_succ, List.getElem_toArray, List.getElem_cons_zero, List.getElem_cons_succ]
                      refine wpAnyH_take (i := 11) (v := ?_) rfl (by kernel_rfl) (by kernel_rfl) (by kernel_rfl) (fun _ _ _ h => h) (Or.inl ⟨by rfl, ?_⟩) hS0 ?_
                      case refine_2 => (intro W hSW; go_simp; try with_reducible rfl)
                      try simp only [Act.put, List.setIfInBounds_toArray, List.set_cons_zero, List.set_cons_succ, List.getElem_toArray, List.getElem_cons_zero, List.getElem_cons_succ]
                      refine wpAnyH_take (i := 12) (v := ?_) rfl (by kernel_rfl) (by kernel_rfl) (by kernel_rfl) (fun _ _ _ h => h) (Or.inl ⟨by rfl, ?_⟩) hS0 ?_
                      case refine_2 => (intro W hSW; go_simp; try with_reducible rfl)
                      try simp only [Act.put, List.setIfInBounds_toArray, List.set_cons_zero, List.set_cons_succ, List.getElem_toArray, List.getElem_cons_zero, List.getElem_cons_succ]
                      refine wpAnyH_take (i := 13) (v := ?_) rfl (by kernel_rfl) (by kernel_rfl) (by kernel_rfl) (fun _ _ _ h => h) (Or.inl ⟨by rfl, ?_⟩) hS0 ?_
                      case refine_2 => (intro W hSW; go_simp; try with_reducible rfl)
                      try simp only [Act.put, List.setIfInBounds_toArray, List.set_cons_zero, List.set_cons_succ, List.getElem_toArray, List.getElem_cons_zero, List.getElem_cons_succ]
                      refine wpAnyH_take (i := 14) (v := ?_) rfl (by kernel_rfl) (by kernel_rfl) (by kernel_rfl) (fun _ _ _ h => h) (Or.inl ⟨by rfl, ?_⟩) hS0 ?_
                      case refine_2 => (intro W hSW; obtain ⟨z0, z1⟩ := hSW; go_simp; try with_reducible rfl)
                      try simp only [Act.put, List.setIfInBounds_toArray, List.set_cons_zero, List.set_cons_succ, List.getElem_toArray, List.getElem_cons_zero, List.getElem_cons_succ]
                      refine wpAnyH_ready (rs := [10]) (by kernel_rfl) (by simp) ?_
                      refine AllReadyH.cons rfl (fun K' hK => ?_) AllReadyH.nil
                      go_simp
                      go_at_call 49
                      refine (CX.out _).mono ?_
                      rintro e x1 ⟨rfl, hx1⟩
                      have hk1 : Below wr.heap.size wr x1 := below_next (by (repeat (first | with_reducible assumption | with_reducible refine below_new ?_ _ | with_reducible refine Below.drew ?_ | with_reducible exact Below.refl _ _))) hx1
                      try simp only [Act.put, List.setIfInBounds_toArray, List.set_cons_zero, List.set_cons_succ, List.getElem_toArray, List.getElem_cons_zero, List.getElem_cons_succ]
                      refine hK.out _ _ (HC.out x1 hk1) (fun hS0 => ?_)
                      refine wpAnyH_ready (rs := [15]) (by kernel_rfl) (by simp) ?_
                      refine AllReadyH.cons rfl (fun K' hK => ?_) AllReadyH.nil
                      go_simp
                      go_at_call 49
                      refine (CY.out _).mono ?_
                      rintro e x2 ⟨rfl, hx2⟩
                      have hk2 : Below wr.heap.size wr x2 := below_next (by (repeat (first | with_reducible assumption | with_reducible refine below_new ?_ _ | with_reducible refine Below.drew ?_ | with_reducible exact Below.refl _ _))) hx2
                      try simp only [Act.put, List.setIfInBounds_toArray, List.set_cons_zero, List.set_cons_succ, List.getElem_toArray, List.getElem_cons_zero, List.getElem_cons_succ]
                      refine hK.out _ _ (HC.out x2 hk2) (fun hS0 => ?_)
                      refine wpAnyH_take (i := 16) (v := ?_) rfl (by kernel_rfl) (by kernel_rfl) (by kernel_rfl) (fun _ _ _ h => h) (Or.inl ⟨by rfl, ?_⟩) hS0 ?_
                      case refine_2 => (intro W hSW; go_simp; try with_reducible rfl)
                      try simp only [Act.put, List.setIfInBounds_toArray, List.set_cons_zero, List.set_cons_succ, List.getElem_toArray, List.getElem_cons_zero, List.getElem_cons_succ]
                      refine wpAnyH_take (i := 17) (v := ?_) rfl (by kernel_rfl) (by kernel_rfl) (by kernel_rfl) (fun _ _ _ h => h) (Or.inl ⟨by rfl, ?_⟩) hS0 ?_
                      case refine_2 => (intro W hSW; go_simp; try with_reducible rfl)
                      try simp only [Act.put, List.setIfInBounds_toArray, List.set_cons_zero, List.set_cons_succ, List.getElem_toArray, List.getElem_cons_zero, List.getElem_cons_succ]
                      refine wpAnyH_done (by kernel_rfl) (NoPanic.normal ?_) _
                      go_wp2_with fail
                      go_meet
                      exact ⟨by first | rfl | (rw [HMB.out]) | simp, ⟨hk2⟩⟩
                  case rest =>
                    obtain ⟨rfl, hcut⟩ := hcut
                    have HB3 := kept (HBW.out.trans (hcut.out.mono HBW.out.size))
                    obtain ⟨w4, hw4⟩ : ∃ w4 : World, w4 = wc := ⟨_, rfl⟩
                    rw [← hw4] at HB3 ⊢
                    clear hw4 hcut HC CX CY HBW HME HMD
                    cases pp with
                    | true =>
                      have hpt := HSY.out rfl
                      go_wp2_with fail
                      go_ret
                      exact ⟨rfl, HW.out _ (HV.out _ HB3.out)⟩
                    | false =>
                      have HJ2 : Kept ((lb3.take (j + 1)).any (fun y => mailB x y) = false) := ⟨by rw [HTJ.out, HJ.out]; rfl⟩
                      clear HTJ HJ HSY
                      go_wp2_with fail
                      go_roundw
                      case rel => exact ⟨j + 1, by omega, by go_num, HJ2, HB3⟩
                      case measure => simp [intOf]; omega
                · obtain rfl : j = lb3.length := by omega
                  have hge : ¬ (lb3.length : Int) < (lb3.length : Int) := by omega
                  have HN2 : Kept ((la3.take (k + 1)).any (fun x => lb3.any fun y => mailB x y) = false) := ⟨by
                    have := HJ.out
                    rw [List.take_of_length_le (Nat.le_refl _)] at this
                    rw [HTK.out, HN.out, this]; rfl⟩
                  clear HTK HN HJ
                  go_wp2_with fail
                  go_roundw
                  case rel => exact ⟨k + 1, by omega, by go_num, HN2, HBW⟩
                  case measure => simp [intOf]; omega
            · obtain rfl : k = la3.length := by omega
              have hge : ¬ (la3.length : Int) < (la3.length : Int) := by omega
              have hpf := HF3.out _ rfl HN.out
              have HRES3 : Kept (∀ v : Bool, (decide (fa ≠ ⟨#[]⟩) && decide (fa = fb)) = v → (.returned (.bool v) : Ending) = .returned (.bool (p || q || (decide (fa ≠ ⟨#[]⟩) && decide (fa = fb))))) := ⟨fun v h => HRES2.out v (by rw [hpf, Bool.false_or]; exact h)⟩
              have hb3 := kept (HV.out _ HBW.out)
              have k2 := HKA3.out _ hb3.out
              clear hpf HN HF3 HT3 HRES2 HRA HRB SA3 SB3 HS HKA3
              go_wp2_with (refine wpl_loadB rfl _ _ rfl w.heap.size rfl _ _ k2 _ rfl rfl rfl ?_)
              refine (CTA.out _ (HW.out _ hb3.out)).mono ?_
              rintro e w6 ⟨rfl, h6⟩
              have hb6 : Kept (Below w3.heap.size w3 w6) := by first | exact kept (below_next hb3.out h6) | (subst h6; exact hb3)
              go_wp2_with fail
              refine (CFA.out _).mono ?_
              rintro e w7 ⟨rfl, h7⟩
              have hb7 : Kept (Below w3.heap.size w3 w7) := by first | exact kept (below_next hb6.out h7) | (subst h7; exact hb6)
              have k4 := HKB3.out _ hb7.out
              clear k2 h6 h7 hb6 hb3 HKB3 CTA CFA HBW HV
              by_cases he : fa = ⟨#[]⟩
              · subst he
                go_wp2_with fail
                go_ret
                exact ⟨HRES3.out false rfl, HW.out _ hb7.out⟩
              · have e0 : (fa.toList == []) = false := by
                  rw [show ([] : List UInt8) = (⟨#[]⟩ : ByteArray).toList from by rw [ByteArray.toList_eq], str_beq]
                  exact decide_eq_false he
                have hq := str_beq fa fb
                obtain ⟨r, hr⟩ : ∃ r : Bool, decide (fa = fb) = r := ⟨_, rfl⟩
                rw [hr] at hq
                have HR : Kept ((decide (fa ≠ ⟨#[]⟩) && decide (fa = fb)) = r) := ⟨by rw [decide_eq_true he, hr]; rfl⟩
                clear he hr
                go_wp2_with (refine wpl_loadBG (by first | rfl | kernel_rfl) _ _ rfl (w.heap.size + 1) rfl _ _ k4 _ rfl rfl rfl ?_)
                refine (CTB.out _ (HW.out _ hb7.out)).mono ?_
                rintro e w8 ⟨rfl, h8⟩
                have hb8 : Kept (Below w3.heap.size w3 w8) := by first | exact kept (below_next hb7.out h8) | (subst h8; exact hb7)
                go_wp2_with fail
                refine (CFB.out _).mono ?_
                rintro e w9 ⟨rfl, h9⟩
                have hb9 : Kept (Below w3.heap.size w3 w9) := by first | exact kept (below_next hb8.out h9) | (subst h9; exact hb8)
                clear h8 h9 hb8 hb7 k4
                go_wp2_with fail
                go_ret
                exact ⟨HRES3.out _ HR.out, HW.out _ hb9.out⟩
end Go.Proofs.YtfkfpanhbanljaaGreatDoor.Twin
