import Derived.Test.YtfkfpanhbanljaaGreatDoorSet41
import Derived.Test.YtfkfpanhbanljaaGreatDoorTwinGroups
import Derived.BigQuiet
import Derived.Test.YtfkfpanhbanljaaGreatDoorSet28
import Derived.Test.YtfkfpanhbanljaaGreatDoorSet12
import Derived.Deep.DeepCutAuto
/- Layer 47 (twin): the chapter's example. (printed by tools/gentx.py) -/
namespace Go.Proofs.YtfkfpanhbanljaaGreatDoor.Twin
open Go.RowKit Go.Proofs.YtfkfpanhbanljaaGreatDoor.Mem Go.Proofs.YtfkfpanhbanljaaGreatDoor.Card Go.Proofs.YtfkfpanhbanljaaGreatDoor.Laid

theorem exA_ok {W : World} {g : Nat} (hk : Blk W g [.int .u8 1, .string ⟨#[65, 110, 110]⟩, .slice none 0 0, .int .u8 2, .string ⟨#[48, 51, 48, 32, 49, 50, 51, 52, 53, 54, 55]⟩, .slice none 0 0] 44) : (exA (some ⟨g, 0, none⟩)).Ok W W.heap.size :=
  ⟨by show (7 : Nat) < _; decide, ⟨hk.rd, fun z hz => by
    simp only [exA, List.mem_cons, List.not_mem_nil, or_false] at hz
    rcases hz with rfl | rfl <;> exact ⟨Mem.Rd.nil, by decide, by decide, by decide⟩⟩, by show (2 : Nat) ≤ 2; decide, by show (2 : Nat) ≤ _; decide⟩
theorem exA_small (X : Option Addr) : SmallK (exA X) := ⟨by show (2 : Nat) ≤ 12; decide, fun z hz => by
  simp only [exA, List.mem_cons, List.not_mem_nil, or_false] at hz
  rcases hz with rfl | rfl <;> exact ⟨by decide, by decide, fun y hy => by cases hy⟩⟩
theorem exB_ok {W : World} {g : Nat} (hk : Blk W g [.int .u8 1, .string ⟨#[65, 46, 32, 76, 101, 101]⟩, .slice none 0 0, .int .u8 2, .string ⟨#[43, 52, 57, 32, 51, 48, 32, 49, 50, 51, 52, 53, 54, 55]⟩, .slice none 0 0, .int .u8 3, .string ⟨#[65, 64, 66]⟩, .slice none 0 0] 44) : (exB (some ⟨g, 0, none⟩)).Ok W W.heap.size :=
  ⟨by show (5 : Nat) < _; decide, ⟨hk.rd, fun z hz => by
    simp only [exB, List.mem_cons, List.not_mem_nil, or_false] at hz
    rcases hz with rfl | rfl | rfl <;> exact ⟨Mem.Rd.nil, by decide, by decide, by decide⟩⟩, by show (3 : Nat) ≤ 3; decide, by show (3 : Nat) ≤ _; decide⟩
theorem exB_small (X : Option Addr) : SmallK (exB X) := ⟨by show (3 : Nat) ≤ 12; decide, fun z hz => by
  simp only [exB, List.mem_cons, List.not_mem_nil, or_false] at hz
  rcases hz with rfl | rfl | rfl <;> exact ⟨by decide, by decide, fun y hy => by cases hy⟩⟩
theorem exC_ok {W : World} {g : Nat} (hk : Blk W g [.int .u8 1, .string ⟨#[76, 101, 101]⟩, .slice none 0 0, .int .u8 3, .string ⟨#[97, 64, 98]⟩, .slice none 0 0] 44) : (exC (some ⟨g, 0, none⟩)).Ok W W.heap.size :=
  ⟨by show (6 : Nat) < _; decide, ⟨hk.rd, fun z hz => by
    simp only [exC, List.mem_cons, List.not_mem_nil, or_false] at hz
    rcases hz with rfl | rfl <;> exact ⟨Mem.Rd.nil, by decide, by decide, by decide⟩⟩, by show (2 : Nat) ≤ 2; decide, by show (2 : Nat) ≤ _; decide⟩
theorem exC_small (X : Option Addr) : SmallK (exC X) := ⟨by show (2 : Nat) ≤ 12; decide, fun z hz => by
  simp only [exC, List.mem_cons, List.not_mem_nil, or_false] at hz
  rcases hz with rfl | rfl <;> exact ⟨by decide, by decide, fun y hy => by cases hy⟩⟩
theorem one_of {α β : Type} {f : α → β} {l : List α} {q : β} (h : l.map f = [q]) : ∃ x, l = [x] ∧ f x = q := by
  cases l with
  | nil => cases h
  | cons x l =>
    injection h with h1 h2
    obtain rfl : l = [] := by simpa using h2
    exact ⟨x, rfl, h1⟩
set_option maxRecDepth 100000 in
set_option maxHeartbeats 4000000 in
theorem tworks_any (w : World) (hm : ML w) : Calls Tryz.prog 19 #[] w fun e w' => e = .returned (.bool true) ∧ Below w.heap.size w w' := by
  obtain ⟨W, hW⟩ : ∃ W, (((((((w.alloc (.cells #[.int .u8 1, .string ⟨#[65, 110, 110]⟩, .slice none 0 0, .int .u8 2, .string ⟨#[48, 51, 48, 32, 49, 50, 51, 52, 53, 54, 55]⟩, .slice none 0 0] 44)).alloc (.cells #[.int .u64 7, .slice (some ⟨w.heap.size, 0, none⟩) 2 2] 31)).alloc (.cells #[.int .u8 1, .string ⟨#[65, 46, 32, 76, 101, 101]⟩, .slice none 0 0, .int .u8 2, .string ⟨#[43, 52, 57, 32, 51, 48, 32, 49, 50, 51, 52, 53, 54, 55]⟩, .slice none 0 0, .int .u8 3, .string ⟨#[65, 64, 66]⟩, .slice none 0 0] 44)).alloc (.cells #[.int .u64 5, .slice (some ⟨w.heap.size + 1 + 1, 0, none⟩) 3 3] 31)).alloc (.cells #[.int .u8 1, .string ⟨#[76, 101, 101]⟩, .slice none 0 0, .int .u8 3, .string ⟨#[97, 64, 98]⟩, .slice none 0 0] 44)).alloc (.cells #[.int .u64 6, .slice (some ⟨w.heap.size + 1 + 1 + 1 + 1, 0, none⟩) 2 2] 31)).alloc (.cells #[.int .u64 7, .slice (some ⟨w.heap.size, 0, none⟩) 2 2, .int .u64 5, .slice (some ⟨w.heap.size + 1 + 1, 0, none⟩) 3 3, .int .u64 6, .slice (some ⟨w.heap.size + 1 + 1 + 1 + 1, 0, none⟩) 2 2] 31)) = W := ⟨_, rfl⟩
  have HB : Kept (Below w.heap.size w W) := ⟨by rw [← hW]; exact (((((((Below.refl _ _).alloc (by simp <;> omega) _).alloc (by simp <;> omega) _).alloc (by simp <;> omega) _).alloc (by simp <;> omega) _).alloc (by simp <;> omega) _).alloc (by simp <;> omega) _).alloc (by simp <;> omega) _⟩
  have K0 : Kept (Blk W (w.heap.size) [.int .u8 1, .string ⟨#[65, 110, 110]⟩, .slice none 0 0, .int .u8 2, .string ⟨#[48, 51, 48, 32, 49, 50, 51, 52, 53, 54, 55]⟩, .slice none 0 0] 44) := ⟨by rw [← hW]; exact (((((((Blk.newAt _ _ _ (by simp)).alloc _).alloc _).alloc _).alloc _).alloc _).alloc _)⟩
  have K1 : Kept (Blk W (w.heap.size + 1) [.int .u64 7, .slice (some ⟨w.heap.size, 0, none⟩) 2 2] 31) := ⟨by rw [← hW]; exact ((((((Blk.newAt _ _ _ (by simp)).alloc _).alloc _).alloc _).alloc _).alloc _)⟩
  have K2 : Kept (Blk W (w.heap.size + 1 + 1) [.int .u8 1, .string ⟨#[65, 46, 32, 76, 101, 101]⟩, .slice none 0 0, .int .u8 2, .string ⟨#[43, 52, 57, 32, 51, 48, 32, 49, 50, 51, 52, 53, 54, 55]⟩, .slice none 0 0, .int .u8 3, .string ⟨#[65, 64, 66]⟩, .slice none 0 0] 44) := ⟨by rw [← hW]; exact (((((Blk.newAt _ _ _ (by simp)).alloc _).alloc _).alloc _).alloc _)⟩
  have K3 : Kept (Blk W (w.heap.size + 1 + 1 + 1) [.int .u64 5, .slice (some ⟨w.heap.size + 1 + 1, 0, none⟩) 3 3] 31) := ⟨by rw [← hW]; exact ((((Blk.newAt _ _ _ (by simp)).alloc _).alloc _).alloc _)⟩
  have K4 : Kept (Blk W (w.heap.size + 1 + 1 + 1 + 1) [.int .u8 1, .string ⟨#[76, 101, 101]⟩, .slice none 0 0, .int .u8 3, .string ⟨#[97, 64, 98]⟩, .slice none 0 0] 44) := ⟨by rw [← hW]; exact (((Blk.newAt _ _ _ (by simp)).alloc _).alloc _)⟩
  have K5 : Kept (Blk W (w.heap.size + 1 + 1 + 1 + 1 + 1) [.int .u64 6, .slice (some ⟨w.heap.size + 1 + 1 + 1 + 1, 0, none⟩) 2 2] 31) := ⟨by rw [← hW]; exact ((Blk.newAt _ _ _ (by simp)).alloc _)⟩
  have K6 : Kept (Blk W (w.heap.size + 1 + 1 + 1 + 1 + 1 + 1) [.int .u64 7, .slice (some ⟨w.heap.size, 0, none⟩) 2 2, .int .u64 5, .slice (some ⟨w.heap.size + 1 + 1, 0, none⟩) 3 3, .int .u64 6, .slice (some ⟨w.heap.size + 1 + 1 + 1 + 1, 0, none⟩) 2 2] 31) := ⟨by rw [← hW]; exact (Blk.newAt _ _ _ (by simp))⟩
  have hl : RdCards W W.heap.size (some ⟨w.heap.size + 1 + 1 + 1 + 1 + 1 + 1, 0, none⟩) [exA (some ⟨w.heap.size, 0, none⟩), exB (some ⟨w.heap.size + 1 + 1, 0, none⟩), exC (some ⟨w.heap.size + 1 + 1 + 1 + 1, 0, none⟩)] := ⟨K6.out.rd, fun z hz => by
    simp only [List.mem_cons, List.not_mem_nil, or_false] at hz
    rcases hz with rfl | rfl | rfl
    · exact exA_ok K0.out
    · exact exB_ok K2.out
    · exact exC_ok K4.out⟩
  have CG := groups_any (some ⟨w.heap.size + 1 + 1 + 1 + 1 + 1 + 1, 0, none⟩) 3 [exA (some ⟨w.heap.size, 0, none⟩), exB (some ⟨w.heap.size + 1 + 1, 0, none⟩), exC (some ⟨w.heap.size + 1 + 1 + 1 + 1, 0, none⟩)] W hl (fun z hz => by
    simp only [List.mem_cons, List.not_mem_nil, or_false] at hz
    rcases hz with rfl | rfl | rfl
    · exact exA_small _
    · exact exB_small _
    · exact exC_small _) (hm.next HB.out) (by show (3 : Nat) ≤ 10; decide)
  rw [show (sortG (groupsL (List.length [exA (some ⟨w.heap.size, 0, none⟩), exB (some ⟨w.heap.size + 1 + 1, 0, none⟩), exC (some ⟨w.heap.size + 1 + 1 + 1 + 1, 0, none⟩)]) (cidAt [exA (some ⟨w.heap.size, 0, none⟩), exB (some ⟨w.heap.size + 1 + 1, 0, none⟩), exC (some ⟨w.heap.size + 1 + 1 + 1 + 1, 0, none⟩)]) (headR (adjB [exA (some ⟨w.heap.size, 0, none⟩), exB (some ⟨w.heap.size + 1 + 1, 0, none⟩), exC (some ⟨w.heap.size + 1 + 1 + 1 + 1, 0, none⟩)]) (List.length [exA (some ⟨w.heap.size, 0, none⟩), exB (some ⟨w.heap.size + 1 + 1, 0, none⟩), exC (some ⟨w.heap.size + 1 + 1 + 1 + 1, 0, none⟩)]) 0))) = [[5, 6, 7]] from ex_groups _ _ _] at CG
  have CG : Kept (Calls Tryz.prog 23 #[.slice (some ⟨w.heap.size + 1 + 1 + 1 + 1 + 1 + 1, 0, none⟩) 3 3] W (GivesG W [[5, 6, 7]])) := ⟨CG⟩
  have HM := kept hm
  clear hl hm
  go_enter Tryz.func19, Tryz.ntmps19
  go_wp2_with fail
  refine CG.out.mono ?_
  rintro e w8 ⟨A, c, gs, rfl, hgs, hcp, hrd, hb8⟩
  obtain ⟨g, rfl, hg⟩ := one_of hgs
  have HB8 := kept (HB.out.trans (hb8.mono HB.out.size))
  have K0 := kept (K0.out.next hb8)
  have K1 := kept (K1.out.next hb8)
  have K4 := kept (K4.out.next hb8)
  have K5 := kept (K5.out.next hb8)
  have hbA : Below w8.heap.size w8 ((w8.alloc (.cells #[.int .u64 5, .int .u64 6, .int .u64 7] 28)).alloc (.cells #[.slice (some ⟨w8.heap.size, 0, none⟩) 3 3] 49)) := ((Below.refl _ _).alloc (Nat.le_refl _) _).alloc (by simp) _
  have N0 : Blk ((w8.alloc (.cells #[.int .u64 5, .int .u64 6, .int .u64 7] 28)).alloc (.cells #[.slice (some ⟨w8.heap.size, 0, none⟩) 3 3] 49)) w8.heap.size [.int .u64 5, .int .u64 6, .int .u64 7] 28 := (Blk.new w8 _ _).alloc _
  have N1 : Blk ((w8.alloc (.cells #[.int .u64 5, .int .u64 6, .int .u64 7] 28)).alloc (.cells #[.slice (some ⟨w8.heap.size, 0, none⟩) 3 3] 49)) (w8.heap.size + 1) [.slice (some ⟨w8.heap.size, 0, none⟩) 3 3] 49 := Blk.newAt _ _ _ (by simp)
  have HB9 := kept (HB8.out.trans (hbA.mono HB8.out.size))
  have K0 := kept (K0.out.next hbA)
  have K1 := kept (K1.out.next hbA)
  have K4 := kept (K4.out.next hbA)
  have K5 := kept (K5.out.next hbA)
  have hh : RdG ((w8.alloc (.cells #[.int .u64 5, .int .u64 6, .int .u64 7] 28)).alloc (.cells #[.slice (some ⟨w8.heap.size, 0, none⟩) 3 3] 49)) (some ⟨w8.heap.size + 1, 0, none⟩) [⟨some ⟨w8.heap.size, 0, none⟩, [5, 6, 7], 3⟩] := ⟨N1.rd, fun g hg => by rw [List.mem_singleton.1 hg]; exact N0.rd⟩
  have CS := kept (gsame_true A (some ⟨w8.heap.size + 1, 0, none⟩) c 1 [g] [⟨some ⟨w8.heap.size, 0, none⟩, [5, 6, 7], 3⟩] _ (hrd.next hbA) hh (by show [g.l] = [[5, 6, 7]]; rw [hg]) (by show (1 : Nat) ≤ 1000000; decide) (fun q hq => by rw [List.mem_singleton.1 hq, hg]; decide))
  clear hrd hb8 hh N0 N1 hbA hgs hg CG K2 K3 K6
  go_wp2_with fail
  refine CS.out.mono ?_
  rintro e w9 ⟨rfl, hb9⟩
  have hb9' : Below ((w8.alloc (.cells #[.int .u64 5, .int .u64 6, .int .u64 7] 28)).alloc (.cells #[.slice (some ⟨w8.heap.size, 0, none⟩) 3 3] 49)).heap.size ((w8.alloc (.cells #[.int .u64 5, .int .u64 6, .int .u64 7] 28)).alloc (.cells #[.slice (some ⟨w8.heap.size, 0, none⟩) 3 3] 49)) w9 := hb9
  have HBX := kept (HB9.out.trans (hb9'.mono HB9.out.size))
  have K0 := kept (K0.out.next hb9')
  have K1 := kept (K1.out.next hb9')
  have K4 := kept (K4.out.next hb9')
  have K5 := kept (K5.out.next hb9')
  have CA := alike_any (exA (some ⟨w.heap.size, 0, none⟩)) (exC (some ⟨w.heap.size + 1 + 1 + 1 + 1, 0, none⟩)) w9 (exA_ok K0.out) (exC_ok K4.out) (HM.out.next HBX.out) (exA_small _) (exC_small _)
  rw [ex_ac] at CA
  have CA : Kept (Calls Tryz.prog 20 #[.agg #[.int .u64 7, .slice (some ⟨w.heap.size, 0, none⟩) 2 2], .agg #[.int .u64 6, .slice (some ⟨w.heap.size + 1 + 1 + 1 + 1, 0, none⟩) 2 2]] w9 fun e w' => e = .returned (.bool false) ∧ Below w9.heap.size w9 w') := ⟨CA⟩
  have q0 := K1.out.cell (j := 0) rfl
  have q1 := K1.out.cell (j := 1) rfl
  have q2 := K5.out.cell (j := 0) rfl
  have q3 := K5.out.cell (j := 1) rfl
  clear hb9 hb9' K0 K1 K4 K5
  go_wp2_with fail
  refine CA.out.mono ?_
  rintro e w10 ⟨rfl, hbX⟩
  have HBY := kept (HBX.out.trans (hbX.mono HBX.out.size))
  clear hbX
  go_wp2_with fail
  go_ret
  exact ⟨rfl, HBY.out⟩
end Go.Proofs.YtfkfpanhbanljaaGreatDoor.Twin

/- Layer 47 (twin): the law TwinOrder. (printed by tools/gento.py) -/
namespace Go.Proofs.YtfkfpanhbanljaaGreatDoor.Twin
open Go.RowKit Go.Proofs.YtfkfpanhbanljaaGreatDoor.Mem Go.Proofs.YtfkfpanhbanljaaGreatDoor.Card Go.Proofs.YtfkfpanhbanljaaGreatDoor.Fold Go.Proofs.YtfkfpanhbanljaaGreatDoor.Laid

theorem groups_bound {n : Nat} {cid R : Nat → Nat} {gs : List GrpM} (h : gs.map GrpM.l = sortG (groupsL n cid R)) : gs.length ≤ n ∧ ∀ g ∈ gs, g.l.length ≤ n := by
  have hp := sortG_perm (groupsL n cid R)
  constructor
  · have h1 := congrArg List.length h
    rw [List.length_map, hp.length_eq] at h1
    rw [h1]
    unfold groupsL
    exact Nat.le_trans (List.length_filter_le _ _) (by simp)
  · intro g hg
    have h1 : g.l ∈ sortG (groupsL n cid R) := by rw [← h]; exact List.mem_map_of_mem hg
    have h2 := hp.mem_iff.1 h1
    unfold groupsL at h2
    obtain ⟨m, -, h3⟩ := List.mem_map.1 (List.mem_filter.1 h2).1
    rw [← h3, class_inG]
    exact Nat.le_trans (norm_len _) (inG_len _ _ _ _)
theorem same_symm (x y : ByteArray) : Phone.sameB x y = Phone.sameB y x := Phone.same_comm _ _
theorem small_of {l : List CardM} (hf : fewT l) (ht : ∀ y ∈ l, ∀ u ∈ y.ls, ∀ q ∈ u.m, q.size ≤ 140737488355000) : ∀ x ∈ l, SmallK x := fun x hx => by
  have h := hf.2.2 x hx
  exact ⟨h.1, fun z hz => ⟨by have := (h.2 z hz).1; omega, (h.2 z hz).2, ht x hx z hz⟩⟩
theorem turn_tmod {n i f : Nat} (hi : i < n) : Int.tmod ((n : Int) - 1 - (i : Int) + (f : Int)) (n : Int) = ((turnP n f i : Nat) : Int) := by
  rw [show (n : Int) - 1 - (i : Int) + (f : Int) = ((n - 1 - i + f : Nat) : Int) by omega]
  unfold turnP
  exact (Int.ofNat_tmod _ _).symm
end Go.Proofs.YtfkfpanhbanljaaGreatDoor.Twin
