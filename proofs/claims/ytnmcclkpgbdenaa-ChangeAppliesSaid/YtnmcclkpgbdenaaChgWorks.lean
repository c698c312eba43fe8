/- Layer 50 (change): the chapter's example. -/
import Derived.Test.YtnmcclkpgbdenaaChgApply
import Derived.Test.YtnmcclkpgbdenaaChgDiff
import Derived.Test.YtnmcclkpgbdenaaSet5
import Derived.BigQuiet
namespace Go.Proofs.Ytnmcclkpgbdenaa.Chg
open Go.RowKit Go.Proofs.Ytnmcclkpgbdenaa.Mem Go.Proofs.Ytnmcclkpgbdenaa.Card

def annS : ByteArray := ⟨#[65, 110, 110]⟩
def romeS : ByteArray := ⟨#[82, 111, 109, 101]⟩
def exA (X : Option Addr) : CardM := ⟨281474976710657, X, [⟨1, annS, none, [], 0⟩], 1⟩
def exB (X : Option Addr) : CardM := ⟨281474976710657, X, [⟨1, annS, none, [], 0⟩, ⟨4, romeS, none, [], 0⟩], 2⟩
def exL (A : Option Addr) (c : Nat) : LineM := ⟨4, romeS, A, [], c⟩
theorem exA_good (X : Option Addr) : goodL [exA X] = true := (goodL_p (a := [exA X]) (b := [exA none]) rfl).trans (by decide +kernel)
theorem exB_good (X : Option Addr) : goodL [exB X] = true := (goodL_p (a := [exB X]) (b := [exB none]) rfl).trans (by decide +kernel)
theorem exK_good (X : Option Addr) (A : Option Addr) (c : Nat) : cardGood (withK (exA X) (exL A c) false) = true := (cardGood_p (x := withK (exA X) (exL A c) false) (y := exB none) rfl).trans (by decide +kernel)
theorem ex_diff (X Y : Option Addr) : (if goodL [exA X] && goodL [exB Y] then diffM [exA X] [exB Y] else []) = [(3, (281474976710657, []), (4, romeS, []))] := by
  rw [exA_good, exB_good, Bool.and_self, if_pos rfl, diffM_eq (x := exA X) (y := exB Y) [] [] rfl, diffM_nil]
  rfl
theorem ex_apply (X : Option Addr) (x : ChM) (hx : x.p = (3, (281474976710657, []), (4, romeS, []))) : (applyM [exA X] [x]).2 = 0 ∧ (applyM [exA X] [x]).1.map CardM.p = [(exB none).p] := by
  obtain ⟨xk, ⟨xcid, xX, xls, xc⟩, ⟨xf, xt, xA, xm, xmc⟩⟩ := x
  injection hx with h1 h2
  injection h2 with h2 h3
  injection h2 with h2 h4
  injection h3 with h3 h5
  injection h5 with h5 h6
  dsimp only at h1 h2 h3 h5 h6
  subst h1 h2 h3 h5 h6
  have e : oneM [exA X] ⟨3, ⟨281474976710657, xX, xls, xc⟩, exL xA xmc⟩ = (putM [exA X] (withK (exA X) (exL xA xmc) false), 0) := by
    unfold oneM
    rw [if_neg (by show ¬ ((3 : Nat) < 1 ∨ 4 < (3 : Nat)); decide), if_neg (by show ¬ (3 : Nat) = 1; decide)]
    show (if (3 : Nat) = 2 then _ else if (3 : Nat) = 4 ∧ _ then _ else if cardGood (withK (exA X) (exL xA xmc) (decide ((3 : Nat) = 4))) = true then _ else _) = _
    rw [if_neg (by decide), if_neg (fun h => absurd h.1 (by decide)), show decide ((3 : Nat) = 4) = false from rfl, exK_good, if_pos rfl]
  have e2 : oneM [exA X] ⟨3, ⟨281474976710657, xX, xls, xc⟩, ⟨4, romeS, xA, [], xmc⟩⟩ = _ := e
  unfold applyM
  rw [exA_good, if_pos rfl]
  unfold allM
  rw [e2, if_pos rfl]
  exact ⟨rfl, rfl⟩
theorem rdOne {W : World} {g : Nat} {y : CardM} (hk : Blk W g y.cells 38) (hy : y.Ok W W.heap.size) : RdCards W W.heap.size (some ⟨g, 0, none⟩) [y] := ⟨by
  unfold CB
  rw [List.flatMap_singleton]
  exact hk.rd, fun z hz => by rw [List.mem_singleton.1 hz]; exact hy⟩
theorem exA_ok {W : World} {g : Nat} (hk : Blk W g [.int .u8 1, .string annS, .slice none 0 0] 41) : (exA (some ⟨g, 0, none⟩)).Ok W W.heap.size :=
  ⟨by show (281474976710657 : Nat) < _; decide, ⟨hk.rd, fun z hz => by rw [List.mem_singleton.1 hz]; exact ⟨Rd.nil, by decide, by decide, by decide⟩⟩, by show (1 : Nat) ≤ 1; decide, by show (1 : Nat) ≤ _; decide⟩
theorem exB_ok {W : World} {g : Nat} (hk : Blk W g [.int .u8 1, .string annS, .slice none 0 0, .int .u8 4, .string romeS, .slice none 0 0] 41) : (exB (some ⟨g, 0, none⟩)).Ok W W.heap.size :=
  ⟨by show (281474976710657 : Nat) < _; decide, ⟨hk.rd, fun z hz => by
    simp only [exB, List.mem_cons, List.not_mem_nil, or_false] at hz
    rcases hz with rfl | rfl <;> exact ⟨Rd.nil, by decide, by decide, by decide⟩⟩, by show (2 : Nat) ≤ 2; decide, by show (2 : Nat) ≤ _; decide⟩
theorem ex_x {x : ChM} (hx : x.p = (3, (281474976710657, []), (4, romeS, []))) : ∃ X c A m, x = ⟨3, ⟨281474976710657, X, [], c⟩, ⟨4, romeS, A, [], m⟩⟩ := by
  obtain ⟨xk, ⟨xcid, xX, xls, xc⟩, ⟨xf, xt, xA, xm, xmc⟩⟩ := x
  injection hx with h1 h2
  injection h2 with h2 h3
  injection h2 with h2 h4
  injection h3 with h3 h5
  injection h5 with h5 h6
  dsimp only at h1 h2 h3 h5 h6
  have h7 : xls = [] := by simpa using h4
  subst h1 h2 h3 h5 h6 h7
  exact ⟨xX, xc, xA, xmc, rfl⟩
theorem map_one {α β : Type} {f : α → β} {l : List α} {q : β} (h : l.map f = [q]) : ∃ x, l = [x] ∧ f x = q := by
  cases l with
  | nil => cases h
  | cons x l =>
    injection h with h1 h2
    obtain rfl : l = [] := by simpa using h2
    exact ⟨x, rfl, h1⟩
set_option maxRecDepth 100000 in
set_option maxHeartbeats 4000000 in
theorem chworks_any (w : World) : Calls Try.prog 9 #[] w fun e w' => e = .returned (.bool true) ∧ Below w.heap.size w w' := by
  obtain ⟨W, hW⟩ : ∃ W, (((((w.alloc (.cells #[.int .u8 1, .string ⟨#[65, 110, 110]⟩, .slice none 0 0] 41)).alloc (.cells #[.int .u64 281474976710657, .slice (some ⟨w.heap.size, 0, none⟩) 1 1] 38)).alloc (.cells #[.int .u8 1, .string ⟨#[65, 110, 110]⟩, .slice none 0 0, .int .u8 4, .string ⟨#[82, 111, 109, 101]⟩, .slice none 0 0] 41)).alloc (.cells #[.int .u64 281474976710657, .slice (some ⟨w.heap.size + 1 + 1, 0, none⟩) 2 2] 38)).alloc (.cells #[.int .u64 281474976710657, .slice (some ⟨w.heap.size, 0, none⟩) 1 1] 38)).alloc (.cells #[.int .u64 281474976710657, .slice (some ⟨w.heap.size + 1 + 1, 0, none⟩) 2 2] 38) = W := ⟨_, rfl⟩
  have HB : Kept (Below w.heap.size w W) := ⟨by rw [← hW]; exact ((((((Below.refl _ _).alloc (Nat.le_refl _) _).alloc (by simp) _).alloc (by simp; omega) _).alloc (by simp; omega) _).alloc (by simp; omega) _).alloc (by simp; omega) _⟩
  have K0 : Kept (Blk W w.heap.size [.int .u8 1, .string annS, .slice none 0 0] 41) := ⟨by rw [← hW]; exact (((((Blk.new w _ _).alloc _).alloc _).alloc _).alloc _).alloc _⟩
  have K1 : Kept (Blk W (w.heap.size + 1) [.int .u64 281474976710657, .slice (some ⟨w.heap.size, 0, none⟩) 1 1] 38) := ⟨by rw [← hW]; exact ((((Blk.newAt _ _ _ (by simp)).alloc _).alloc _).alloc _).alloc _⟩
  have K2 : Kept (Blk W (w.heap.size + 1 + 1) [.int .u8 1, .string annS, .slice none 0 0, .int .u8 4, .string romeS, .slice none 0 0] 41) := ⟨by rw [← hW]; exact (((Blk.newAt _ _ _ (by simp)).alloc _).alloc _).alloc _⟩
  have K3 : Kept (Blk W (w.heap.size + 1 + 1 + 1) [.int .u64 281474976710657, .slice (some ⟨w.heap.size + 1 + 1, 0, none⟩) 2 2] 38) := ⟨by rw [← hW]; exact ((Blk.newAt _ _ _ (by simp)).alloc _).alloc _⟩
  have K4 : Kept (Blk W (w.heap.size + 1 + 1 + 1 + 1) [.int .u64 281474976710657, .slice (some ⟨w.heap.size, 0, none⟩) 1 1] 38) := ⟨by rw [← hW]; exact (Blk.newAt _ _ _ (by simp)).alloc _⟩
  have K5 : Kept (Blk W (w.heap.size + 1 + 1 + 1 + 1 + 1) [.int .u64 281474976710657, .slice (some ⟨w.heap.size + 1 + 1, 0, none⟩) 2 2] 38) := ⟨by rw [← hW]; exact Blk.newAt _ _ _ (by simp)⟩
  have CD := kept (diff_any (some ⟨w.heap.size + 1 + 1 + 1 + 1, 0, none⟩) (some ⟨w.heap.size + 1 + 1 + 1 + 1 + 1, 0, none⟩) [exA (some ⟨w.heap.size, 0, none⟩)] [exB (some ⟨w.heap.size + 1 + 1, 0, none⟩)] 1 1 W (rdOne (y := exA (some ⟨w.heap.size, 0, none⟩)) K4.out (exA_ok K0.out)) (rdOne (y := exB (some ⟨w.heap.size + 1 + 1, 0, none⟩)) K5.out (exB_ok K2.out)) (by show (1 : Nat) ≤ 25; decide) (by show (1 : Nat) ≤ 25; decide) (by show (1 : Nat) ≤ 1; decide))
  go_enter Try.func9, Try.ntmps9
  go_wp2_with fail
  refine CD.out.mono ?_
  rintro e w7 ⟨A, c, cs, rfl, hcs, hown, hb7⟩
  obtain ⟨x, rfl, hx⟩ := map_one (hcs.trans (ex_diff _ _))
  obtain ⟨xX, xc, xA, xmc, rfl⟩ := ex_x hx
  have HB7 := kept (HB.out.trans (hb7.mono HB.out.size))
  have K0 := kept (K0.out.next hb7)
  have K1 := kept (K1.out.next hb7)
  have K2 := kept (K2.out.next hb7)
  have K3 := kept (K3.out.next hb7)
  have HOW := kept (hown.mono (b' := w.heap.size) HB.out.size)
  clear hown hcs hb7 hx CD hW
  have hbA : Below w7.heap.size w7 (w7.alloc (.cells #[.int .u64 281474976710657, .slice (some ⟨w.heap.size, 0, none⟩) 1 1] 38)) := (Below.refl _ _).alloc (Nat.le_refl _) _
  have HB8 := kept (HB7.out.trans (hbA.mono HB7.out.size))
  have K0 := kept (K0.out.next hbA)
  have K2 := kept (K2.out.next hbA)
  have K3b := kept (K3.out.next hbA)
  have HCH := kept ((HOW.out.next hbA).rd)
  have HE := kept (ex_apply (some ⟨w.heap.size, 0, none⟩) ⟨3, ⟨281474976710657, xX, [], xc⟩, ⟨4, romeS, xA, [], xmc⟩⟩ rfl)
  have CAP := kept (apply_any (some ⟨w7.heap.size, 0, none⟩) A [exA (some ⟨w.heap.size, 0, none⟩)] [⟨3, ⟨281474976710657, xX, [], xc⟩, ⟨4, romeS, xA, [], xmc⟩⟩] 1 c (w7.alloc (.cells #[.int .u64 281474976710657, .slice (some ⟨w.heap.size, 0, none⟩) 1 1] 38))
    (rdOne (Blk.new w7 _ _) (exA_ok K0.out)) HCH.out ⟨by show (1 : Nat) ≤ 25; decide, fun y hy => by
      rw [List.mem_singleton.1 hy]
      exact ⟨by show (1 : Nat) ≤ 12; decide, fun z hz => by rw [List.mem_singleton.1 hz]; exact ⟨by decide, by decide, fun q hq => by cases hq⟩⟩⟩ (by show (1 : Nat) ≤ 30; decide) (fun y hy => by
      rw [List.mem_singleton.1 hy]
      exact ⟨⟨Nat.zero_le _, fun z hz => by cases hz⟩, by show (4 : Nat) ≤ 200; decide, Nat.zero_le _, fun q hq => by cases hq⟩))
  have q0 := K1.out.cell (j := 0) rfl
  have q1 := K1.out.cell (j := 1) rfl
  clear hbA
  go_wp2_with fail
  refine CAP.out.mono ?_
  rintro e w9 ⟨A9, c9, l9, rfl, hl9, hp9, hb9⟩
  obtain ⟨⟨ycid, yX, yls, yc⟩, rfl, hy⟩ := map_one (hp9.trans HE.out.2)
  rw [HE.out.1]
  have hb9' : Below (w7.alloc (.cells #[.int .u64 281474976710657, .slice (some ⟨w.heap.size, 0, none⟩) 1 1] 38)).heap.size (w7.alloc (.cells #[.int .u64 281474976710657, .slice (some ⟨w.heap.size, 0, none⟩) 1 1] 38)) w9 := hb9
  have HB9 := kept (HB8.out.trans (hb9'.mono HB8.out.size))
  have K2 := kept (K2.out.next hb9')
  have K3 := kept (K3b.out.next hb9')
  have HCH := kept (HCH.out.next hb9')
  have HY : Kept ((⟨ycid, yX, yls, yc⟩ : CardM).p = (exB (some ⟨w.heap.size + 1 + 1, 0, none⟩)).p) := ⟨hy⟩
  obtain ⟨b9, o9, rfl, hbl, r0, r1, hyo⟩ := hl9.rd.at_ (i := 0) rfl
  obtain ⟨bA, oA, rfl, hbA, s0, -⟩ := ch_cells HCH.out (k := 0) rfl
  have r0 : w9.cell? ⟨b9, o9, none⟩ = some (.int .u64 (ycid : Int)) := by simpa using r0
  have r1 : w9.cell? ⟨b9, o9 + 1, none⟩ = some (.slice yX yls.length yc) := by simpa using r1
  have s0 : w9.cell? ⟨bA, oA, none⟩ = some (.int .u8 3) := by simpa using s0
  have q2 := K3.out.cell (j := 0) rfl
  have q3 := K3.out.cell (j := 1) rfl
  have CS := kept (fun (W : World) (hb : Below w9.heap.size w9 W) => rsame_any ⟨ycid, yX, yls, yc⟩ (exB (some ⟨w.heap.size + 1 + 1, 0, none⟩)) W (hyo.next hb) ((exB_ok K2.out).next hb))
  rw [decide_eq_true HY.out] at CS
  unfold CardM.val exB at CS
  dsimp only at CS
  clear hb9 hb9' hl9 hp9 hy hyo HE CAP q0 q1 K0 K1 HCH
  have hd0 : Below w9.heap.size w9 w9 := Below.refl _ _
  go_wp2_with fail
  refine wp_region_any (by kernel_rfl) ?_
  change wpAny _ _ _ _ _ _ _ (World.drew _)
  refine wpAny_take (i := 0) (v := ?_) rfl (by kernel_rfl) (by kernel_rfl) (by kernel_rfl) (fun _ _ _ h => h) (Or.inl ⟨by rfl, ?_⟩) ?_
  case refine_2 => (intro w; go_simp; try with_reducible rfl)
  try simp only [Act.put, List.setIfInBounds_toArray, List.set_cons_zero, List.set_cons_succ, List.getElem_toArray, List.getElem_cons_zero, List.getElem_cons_succ]
  refine wpAny_take (i := 1) (v := ?_) rfl (by kernel_rfl) (by kernel_rfl) (by kernel_rfl) (fun _ _ _ h => h) (Or.inl ⟨by rfl, ?_⟩) ?_
  case refine_2 => (intro w; go_simp; try with_reducible rfl)
  try simp only [Act.put, List.setIfInBounds_toArray, List.set_cons_zero, List.set_cons_succ, List.getElem_toArray, List.getElem_cons_zero, List.getElem_cons_succ]
  refine wpAny_take (i := 2) (v := ?_) rfl (by kernel_rfl) (by kernel_rfl) (by kernel_rfl) (fun _ _ _ h => h) (Or.inl ⟨by rfl, ?_⟩) ?_
  case refine_2 => (intro w; go_simp; try with_reducible rfl)
  try simp only [Act.put, List.setIfInBounds_toArray, List.set_cons_zero, List.set_cons_succ, List.getElem_toArray, List.getElem_cons_zero, List.getElem_cons_succ]
  refine wpAny_take (i := 3) (v := ?_) rfl (by kernel_rfl) (by kernel_rfl) (by kernel_rfl) (fun _ _ _ h => h) (Or.inl ⟨by rfl, ?_⟩) ?_
  case refine_2 => (intro w; go_simp; try with_reducible rfl)
  try simp only [Act.put, List.setIfInBounds_toArray, List.set_cons_zero, List.set_cons_succ, List.getElem_toArray, List.getElem_cons_zero, List.getElem_cons_succ]
  refine wpAny_take (i := 4) (v := ?_) rfl (by kernel_rfl) (by kernel_rfl) (by kernel_rfl) (fun _ _ _ h => h) (Or.inl ⟨by rfl, ?_⟩) ?_
  case refine_2 => (intro w; go_simp; try with_reducible rfl)
  try simp only [Act.put, List.setIfInBounds_toArray, List.set_cons_zero, List.set_cons_succ, List.getElem_toArray, List.getElem_cons_zero, List.getElem_cons_succ]
  refine wpAny_take (i := 5) (v := ?_) rfl (by kernel_rfl) (by kernel_rfl) (by kernel_rfl) (fun _ _ _ h => h) (Or.inl ⟨by rfl, ?_⟩) ?_
  case refine_2 => (intro w; go_simp; try with_reducible rfl)
  try simp only [Act.put, List.setIfInBounds_toArray, List.set_cons_zero, List.set_cons_succ, List.getElem_toArray, List.getElem_cons_zero, List.getElem_cons_succ]
  refine wpAny_take (i := 6) (v := ?_) rfl (by kernel_rfl) (by kernel_rfl) (by kernel_rfl) (fun _ _ _ h => h) (Or.inl ⟨by rfl, ?_⟩) ?_
  case refine_2 => (intro w; go_simp; try with_reducible rfl)
  try simp only [Act.put, List.setIfInBounds_toArray, List.set_cons_zero, List.set_cons_succ, List.getElem_toArray, List.getElem_cons_zero, List.getElem_cons_succ]
  refine wpAny_ready (rs := [7]) (by kernel_rfl) (by simp) ?_
  refine AllReady.cons rfl (fun K hK => ?_) AllReady.nil
  go_simp
  go_wp2_with fail
  try simp only [Act.put, List.setIfInBounds_toArray, List.set_cons_zero, List.set_cons_succ, List.getElem_toArray, List.getElem_cons_zero, List.getElem_cons_succ]
  refine wpAny_take (i := 8) (v := ?_) rfl (by kernel_rfl) (by kernel_rfl) (by kernel_rfl) (fun _ _ _ h => h) (Or.inl ⟨by rfl, ?_⟩) ?_
  case refine_2 => (intro w; go_simp; try with_reducible rfl)
  try simp only [Act.put, List.setIfInBounds_toArray, List.set_cons_zero, List.set_cons_succ, List.getElem_toArray, List.getElem_cons_zero, List.getElem_cons_succ]
  refine wpAny_take (i := 9) (v := ?_) rfl (by kernel_rfl) (by kernel_rfl) (by kernel_rfl) (fun _ _ _ h => h) (Or.inl ⟨by rfl, ?_⟩) ?_
  case refine_2 => (intro w; go_simp; try with_reducible rfl)
  try simp only [Act.put, List.setIfInBounds_toArray, List.set_cons_zero, List.set_cons_succ, List.getElem_toArray, List.getElem_cons_zero, List.getElem_cons_succ]
  refine wpAny_take (i := 10) (v := ?_) rfl (by kernel_rfl) (by kernel_rfl) (by kernel_rfl) (fun _ _ _ h => h) (Or.inl ⟨by rfl, ?_⟩) ?_
  case refine_2 => (intro w; go_simp; try with_reducible rfl)
  try simp only [Act.put, List.setIfInBounds_toArray, List.set_cons_zero, List.set_cons_succ, List.getElem_toArray, List.getElem_cons_zero, List.getElem_cons_succ]
  refine wpAny_take (i := 11) (v := ?_) rfl (by kernel_rfl) (by kernel_rfl) (by kernel_rfl) (fun _ _ _ h => h) (Or.inl ⟨by rfl, ?_⟩) ?_
  case refine_2 => (intro w; go_simp; try with_reducible rfl)
  try simp only [Act.put, List.setIfInBounds_toArray, List.set_cons_zero, List.set_cons_succ, List.getElem_toArray, List.getElem_cons_zero, List.getElem_cons_succ]
  refine wpAny_take (i := 12) (v := ?_) rfl (by kernel_rfl) (by kernel_rfl) (by kernel_rfl) (fun _ _ _ h => h) (Or.inl ⟨by rfl, ?_⟩) ?_
  case refine_2 => (intro w; go_simp; try with_reducible rfl)
  try simp only [Act.put, List.setIfInBounds_toArray, List.set_cons_zero, List.set_cons_succ, List.getElem_toArray, List.getElem_cons_zero, List.getElem_cons_succ]
  refine wpAny_take (i := 13) (v := ?_) rfl (by kernel_rfl) (by kernel_rfl) (by kernel_rfl) (fun _ _ _ h => h) (Or.inl ⟨by rfl, ?_⟩) ?_
  case refine_2 => (intro w; go_simp; try with_reducible rfl)
  try simp only [Act.put, List.setIfInBounds_toArray, List.set_cons_zero, List.set_cons_succ, List.getElem_toArray, List.getElem_cons_zero, List.getElem_cons_succ]
  refine wpAny_take (i := 14) (v := ?_) rfl (by kernel_rfl) (by kernel_rfl) (by kernel_rfl) (fun _ _ _ h => h) (Or.inl ⟨by rfl, ?_⟩) ?_
  case refine_2 => (intro w; go_simp; try with_reducible rfl)
  try simp only [Act.put, List.setIfInBounds_toArray, List.set_cons_zero, List.set_cons_succ, List.getElem_toArray, List.getElem_cons_zero, List.getElem_cons_succ]
  refine wpAny_take (i := 15) (v := ?_) rfl (by kernel_rfl) (by kernel_rfl) (by kernel_rfl) (fun _ _ _ h => h) (Or.inl ⟨by rfl, ?_⟩) ?_
  case refine_2 => (intro w; go_simp; try with_reducible rfl)
  try simp only [Act.put, List.setIfInBounds_toArray, List.set_cons_zero, List.set_cons_succ, List.getElem_toArray, List.getElem_cons_zero, List.getElem_cons_succ]
  refine wpAny_take (i := 16) (v := ?_) rfl (by kernel_rfl) (by kernel_rfl) (by kernel_rfl) (fun _ _ _ h => h) (Or.inl ⟨by rfl, ?_⟩) ?_
  case refine_2 => (intro w; go_simp; try with_reducible rfl)
  try simp only [Act.put, List.setIfInBounds_toArray, List.set_cons_zero, List.set_cons_succ, List.getElem_toArray, List.getElem_cons_zero, List.getElem_cons_succ]
  refine wpAny_take (i := 17) (v := ?_) rfl (by kernel_rfl) (by kernel_rfl) (by kernel_rfl) (fun _ _ _ h => h) (Or.inl ⟨by rfl, ?_⟩) ?_
  case refine_2 => (intro w; go_simp; try with_reducible rfl)
  try simp only [Act.put, List.setIfInBounds_toArray, List.set_cons_zero, List.set_cons_succ, List.getElem_toArray, List.getElem_cons_zero, List.getElem_cons_succ]
  refine wpAny_take (i := 18) (v := ?_) rfl (by kernel_rfl) (by kernel_rfl) (by kernel_rfl) (fun _ _ _ h => h) (Or.inl ⟨by rfl, ?_⟩) ?_
  case refine_2 => (intro w; go_simp; try with_reducible rfl)
  try simp only [Act.put, List.setIfInBounds_toArray, List.set_cons_zero, List.set_cons_succ, List.getElem_toArray, List.getElem_cons_zero, List.getElem_cons_succ]
  refine wpAny_take (i := 19) (v := ?_) rfl (by kernel_rfl) (by kernel_rfl) (by kernel_rfl) (fun _ _ _ h => h) (Or.inl ⟨by rfl, ?_⟩) ?_
  case refine_2 => (intro w; go_simp; try with_reducible rfl)
  try simp only [Act.put, List.setIfInBounds_toArray, List.set_cons_zero, List.set_cons_succ, List.getElem_toArray, List.getElem_cons_zero, List.getElem_cons_succ]
  refine wpAny_take (i := 20) (v := ?_) rfl (by kernel_rfl) (by kernel_rfl) (by kernel_rfl) (fun _ _ _ h => h) (Or.inl ⟨by rfl, ?_⟩) ?_
  case refine_2 => (intro w; go_simp; try with_reducible rfl)
  try simp only [Act.put, List.setIfInBounds_toArray, List.set_cons_zero, List.set_cons_succ, List.getElem_toArray, List.getElem_cons_zero, List.getElem_cons_succ]
  refine wpAny_take (i := 21) (v := ?_) rfl (by kernel_rfl) (by kernel_rfl) (by kernel_rfl) (fun _ _ _ h => h) (Or.inl ⟨by rfl, ?_⟩) ?_
  case refine_2 => (intro w; go_simp; try with_reducible rfl)
  try simp only [Act.put, List.setIfInBounds_toArray, List.set_cons_zero, List.set_cons_succ, List.getElem_toArray, List.getElem_cons_zero, List.getElem_cons_succ]
  refine wpAny_ready (rs := [22, 23]) (by kernel_rfl) (by simp) ?_
  refine AllReady.cons rfl (fun K hK => ?_) (AllReady.cons rfl (fun K hK => ?_) AllReady.nil)
  · go_simp
    go_wp2_with fail
    try simp only [Act.put, List.setIfInBounds_toArray, List.set_cons_zero, List.set_cons_succ, List.getElem_toArray, List.getElem_cons_zero, List.getElem_cons_succ]
    refine wpAny_ready (rs := [23]) (by kernel_rfl) (by simp) ?_
    refine AllReady.cons rfl (fun K hK => ?_) AllReady.nil
    go_simp
    go_wp2_with fail
    try simp only [Act.put, List.setIfInBounds_toArray, List.set_cons_zero, List.set_cons_succ, List.getElem_toArray, List.getElem_cons_zero, List.getElem_cons_succ]
    refine wpAny_ready (rs := [24]) (by kernel_rfl) (by simp) ?_
    refine AllReady.cons rfl (fun K hK => ?_) AllReady.nil
    go_simp
    go_wp2_with (go_at_call 39; refine (CS.out _ (by (repeat (first | with_reducible assumption | with_reducible refine below_new ?_ _ | with_reducible refine Below.drew ?_ | with_reducible exact Below.refl _ _)))).mono ?_; rintro e w10 ⟨rfl, hb10⟩)
    try simp only [Act.put, List.setIfInBounds_toArray, List.set_cons_zero, List.set_cons_succ, List.getElem_toArray, List.getElem_cons_zero, List.getElem_cons_succ]
    refine wpAny_take (i := 25) (v := ?_) rfl (by kernel_rfl) (by kernel_rfl) (by kernel_rfl) (fun _ _ _ h => h) (Or.inl ⟨by rfl, ?_⟩) ?_
    case refine_2 => (intro w; go_simp; try with_reducible rfl)
    try simp only [Act.put, List.setIfInBounds_toArray, List.set_cons_zero, List.set_cons_succ, List.getElem_toArray, List.getElem_cons_zero, List.getElem_cons_succ]
    refine wpAny_take (i := 26) (v := ?_) rfl (by kernel_rfl) (by kernel_rfl) (by kernel_rfl) (fun _ _ _ h => h) (Or.inl ⟨by rfl, ?_⟩) ?_
    case refine_2 => (intro w; go_simp; try with_reducible rfl)
    try simp only [Act.put, List.setIfInBounds_toArray, List.set_cons_zero, List.set_cons_succ, List.getElem_toArray, List.getElem_cons_zero, List.getElem_cons_succ]
    refine wpAny_done (by kernel_rfl) ?_ _
    go_wp2_with fail
    go_ret
    exact ⟨rfl, HB9.out.trans ((show Below w9.heap.size w9 w10 from hd0.drew.trans hb10).mono HB9.out.size)⟩
  · go_simp
    go_wp2_with fail
    try simp only [Act.put, List.setIfInBounds_toArray, List.set_cons_zero, List.set_cons_succ, List.getElem_toArray, List.getElem_cons_zero, List.getElem_cons_succ]
    refine wpAny_ready (rs := [22]) (by kernel_rfl) (by simp) ?_
    refine AllReady.cons rfl (fun K hK => ?_) AllReady.nil
    go_simp
    go_wp2_with fail
    try simp only [Act.put, List.setIfInBounds_toArray, List.set_cons_zero, List.set_cons_succ, List.getElem_toArray, List.getElem_cons_zero, List.getElem_cons_succ]
    refine wpAny_ready (rs := [24]) (by kernel_rfl) (by simp) ?_
    refine AllReady.cons rfl (fun K hK => ?_) AllReady.nil
    go_simp
    go_wp2_with (go_at_call 39; refine (CS.out _ (by (repeat (first | with_reducible assumption | with_reducible refine below_new ?_ _ | with_reducible refine Below.drew ?_ | with_reducible exact Below.refl _ _)))).mono ?_; rintro e w10 ⟨rfl, hb10⟩)
    try simp only [Act.put, List.setIfInBounds_toArray, List.set_cons_zero, List.set_cons_succ, List.getElem_toArray, List.getElem_cons_zero, List.getElem_cons_succ]
    refine wpAny_take (i := 25) (v := ?_) rfl (by kernel_rfl) (by kernel_rfl) (by kernel_rfl) (fun _ _ _ h => h) (Or.inl ⟨by rfl, ?_⟩) ?_
    case refine_2 => (intro w; go_simp; try with_reducible rfl)
    try simp only [Act.put, List.setIfInBounds_toArray, List.set_cons_zero, List.set_cons_succ, List.getElem_toArray, List.getElem_cons_zero, List.getElem_cons_succ]
    refine wpAny_take (i := 26) (v := ?_) rfl (by kernel_rfl) (by kernel_rfl) (by kernel_rfl) (fun _ _ _ h => h) (Or.inl ⟨by rfl, ?_⟩) ?_
    case refine_2 => (intro w; go_simp; try with_reducible rfl)
    try simp only [Act.put, List.setIfInBounds_toArray, List.set_cons_zero, List.set_cons_succ, List.getElem_toArray, List.getElem_cons_zero, List.getElem_cons_succ]
    refine wpAny_done (by kernel_rfl) ?_ _
    go_wp2_with fail
    go_ret
    exact ⟨rfl, HB9.out.trans ((show Below w9.heap.size w9 w10 from hd0.drew.trans hb10).mono HB9.out.size)⟩
end Go.Proofs.Ytnmcclkpgbdenaa.Chg
