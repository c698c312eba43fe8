/- The walks of layer 43, continued: Fold, Cmp, Begins of the program; the document's Cmp and Begins. -/
import Derived.Test.YtfkfpanhbanljaaGreatDoorFoldProg
namespace Go.Proofs.YtfkfpanhbanljaaGreatDoor.Fold
open Go.RowKit Go.Proofs.YtfkfpanhbanljaaGreatDoor.Mem Go.Proofs.YtfkfpanhbanljaaGreatDoor.Card Go.Proofs.YtfkfpanhbanljaaGreatDoor.Laid
open Go.Lib hiding Kept

theorem wordsB_data (s : ByteArray) : (wordsB s).map (·.data.toList) = words s.data.toList := by
  unfold wordsB
  rw [List.map_map]
  exact (List.map_congr_left fun x _ => data_bOf x).trans (List.map_id _)
theorem fold_any (s : ByteArray) (w : World) (hs : s.size ≤ 4294967000) (hm : ML w) : Calls Tryz.prog 45 #[.string s] w fun e w' => e = .returned (.string (foldB s)) ∧ Below w.heap.size w w' := by
  have CW := kept (words_any s w hs hm)
  have hwl := wordsB_le s
  have hfd : (Lib.join ((wordsB s).map (·.data.toList)) (⟨#[32]⟩ : ByteArray).data.toList) = fold s.data.toList := by rw [wordsB_data]; rfl
  have hfl := fold_length s.data.toList
  have hdl : s.data.toList.length = s.size := by simp
  go_enter Tryz.func45, Tryz.ntmps45
  go_wp2_with fail
  refine CW.out.mono ?_
  rintro e w1 ⟨A, c, rfl, hown, hc, hb⟩
  have hrd := strE_rd.1 hown.rd
  by_cases hnil : wordsB s = []
  · have hj := join_none A c ⟨#[32]⟩ w1
    have hF : foldB s = ⟨#[]⟩ := by
      unfold foldB
      rw [← hfd, hnil]; rfl
    have HF := kept hF
    rw [hnil]
    clear hF hfd
    go_wp2_with fail
    refine hj.mono ?_
    rintro e w2 ⟨rfl, rfl⟩
    go_wp2_with fail
    go_ret
    exact ⟨by rw [HF.out]; rfl, hb⟩
  · obtain ⟨b, o, rfl, hbb, hcl⟩ := hrd (by intro e; exact hnil (List.map_eq_nil_iff.1 e))
    have hj := join_any b o c (wordsB s) ⟨#[32]⟩ w1 (fun j x hx => hcl j (.string x) (by unfold SB; rw [List.getElem?_map, hx]; rfl)) hbb (by omega) hc (by rw [hfd]; omega)
    rw [hfd] at hj
    have CJ := kept hj
    clear hj hfd hown hrd hcl
    go_wp2_with fail
    refine CJ.out.mono ?_
    rintro e w2 ⟨rfl, hb2⟩
    go_wp2_with fail
    go_ret
    exact ⟨rfl, below_next' hb hb2⟩
where
  below_next' {w w1 w2 : World} (h : Below w.heap.size w w1) (h2 : Below w1.heap.size w1 w2) : Below w.heap.size w w2 := h.trans (h2.mono h.size)
theorem isNaN_any (s : ByteArray) (w : World) : Calls Tryz.prog 152 #[.string s] w fun e w' => e = .returned (.bool false) ∧ w = w' := by
  go_enter Tryz.func152, Tryz.ntmps152
  go_wp2
  go_ret
  exact ⟨rfl, rfl⟩
/-- which of two texts stands ahead, byte by byte -/
def cmpB (a b : ByteArray) : Int := if Op.bytesLess a.toList b.toList then -1 else if (a.toList == b.toList) then 0 else 1
theorem cmpB_lt {a b : ByteArray} (h : Op.bytesLess a.toList b.toList = true) : cmpB a b = -1 := by unfold cmpB; rw [if_pos h]
theorem cmpB_eq {a b : ByteArray} (h : Op.bytesLess a.toList b.toList = false) (h2 : (a.toList == b.toList) = true) : cmpB a b = 0 := by unfold cmpB; rw [if_neg (by rw [h]; decide), if_pos h2]
theorem cmpB_gt {a b : ByteArray} (h : Op.bytesLess a.toList b.toList = false) (h2 : (a.toList == b.toList) = false) : cmpB a b = 1 := by unfold cmpB; rw [if_neg (by rw [h]; decide), if_neg (by rw [h2]; decide)]
theorem compare_any (a b : ByteArray) (w : World) : Calls Tryz.prog 123 #[.string a, .string b] w fun e w' => e = .returned (.int .i64 (cmpB a b)) ∧ w = w' := by
  go_enter Tryz.func123, Tryz.ntmps123
  go_wp2_with fail
  refine (isNaN_any _ _).mono ?_
  rintro e w' ⟨rfl, rfl⟩
  go_wp2_with fail
  refine (isNaN_any _ _).mono ?_
  rintro e w' ⟨rfl, rfl⟩
  go_wp2_with fail
  all_goals go_ret
  · have h1 : Op.bytesLess a.toList b.toList = true := by assumption
    exact ⟨by rw [cmpB_lt h1]; rfl, rfl⟩
  · have h1 : Op.bytesLess a.toList b.toList = false := by assumption
    have h2 : (!a.toList == b.toList) = true := by assumption
    exact ⟨by rw [cmpB_gt h1 (by simpa using h2)]; rfl, rfl⟩
  · have h1 : Op.bytesLess a.toList b.toList = false := by assumption
    have h2 : (!a.toList == b.toList) = false := by assumption
    exact ⟨by rw [cmpB_eq h1 (by simpa using h2)]; rfl, rfl⟩
/-- the first of two numbers that is not 0 -/
def or2 (x y : Int) : Int := if x = 0 then y else x
theorem or2_any (g : Nat) (x y : Int) (w : World) (h0 : w.cell? ⟨g, 0, none⟩ = some (.int .i64 x)) (h1 : w.cell? ⟨g, 1, none⟩ = some (.int .i64 y)) :
    Calls Tryz.prog 92 #[.slice (some ⟨g, 0, none⟩) 2 2] w fun e w' => e = .returned (.int .i64 (or2 x y)) ∧ w = w' := by
  go_enter Tryz.func92, Tryz.ntmps92
  go_wp2
  go_loop [5, 8] (fun _ i => ∃ j : Nat, j ≤ 2 ∧ i = .int .i64 (j : Int) ∧ (0 < j → x = 0) ∧ (1 < j → y = 0)) (fun _ i => 2 - (intOf i).toNat)
  case atStart => exact ⟨0, by omega, rfl, by omega, by omega⟩
  case round =>
    obtain ⟨j, hj, rfl, hx, hy⟩ := hrel
    rcases (show j = 0 ∨ j = 1 ∨ j = 2 by omega) with rfl | rfl | rfl
    · clear hx hy
      by_cases hx0 : x = 0
      · subst hx0
        go_wp2
        go_round
        case rel => exact ⟨1, by omega, by go_num, by simp, by simp⟩
        case measure => simp [intOf]
      · have hxb : (x != 0) = true := by simpa using hx0
        have HR : Kept (or2 x y = x) := ⟨by unfold or2; rw [if_neg hx0]⟩
        clear hx0
        go_wp2
        go_ret
        exact ⟨by rw [HR.out]; rfl, rfl⟩
    · obtain rfl : x = 0 := hx (by omega)
      clear hx hy
      by_cases hx0 : y = 0
      · subst hx0
        go_wp2
        go_round
        case rel => exact ⟨2, by omega, by go_num, by simp, by simp⟩
        case measure => simp [intOf]
      · have hxb : (y != 0) = true := by simpa using hx0
        have HR : Kept (or2 0 y = y) := ⟨rfl⟩
        clear hx0
        go_wp2
        go_ret
        exact ⟨by rw [HR.out]; rfl, rfl⟩
    · obtain rfl : x = 0 := hx (by omega)
      obtain rfl : y = 0 := hy (by omega)
      clear hx hy
      go_wp2
      go_ret
      exact ⟨rfl, rfl⟩
def cmpF (a b : ByteArray) : Int := or2 (cmpB (foldB a) (foldB b)) (cmpB a b)
theorem cmp_any (a b : ByteArray) (w : World) (ha : a.size ≤ 4294967000) (hb : b.size ≤ 4294967000) (hm : ML w) : Calls Tryz.prog 93 #[.string a, .string b] w fun e w' => e = .returned (.int .i64 (cmpF a b)) ∧ Below w.heap.size w w' := by
  have C1 := kept (fold_any a w ha hm)
  have C2 := kept (fun (W : World) (h : Below w.heap.size w W) => fold_any b W hb (hm.next h))
  have HF : Kept (cmpF a b = or2 (cmpB (foldB a) (foldB b)) (cmpB a b)) := ⟨rfl⟩
  generalize foldB a = x at *
  generalize foldB b = y at *
  go_enter Tryz.func93, Tryz.ntmps93
  go_wp2_with fail
  refine C1.out.mono ?_
  rintro e w1 ⟨rfl, hb1⟩
  go_wp2_with fail
  refine (C2.out _ hb1).mono ?_
  rintro e w2 ⟨rfl, hb2⟩
  have hb3 : Below w.heap.size w w2 := hb1.trans (hb2.mono hb1.size)
  clear C1 C2
  go_wp2_with fail
  refine (compare_any _ _ _).mono ?_
  rintro e w' ⟨rfl, rfl⟩
  go_wp2_with fail
  refine (compare_any _ _ _).mono ?_
  rintro e w' ⟨rfl, rfl⟩
  generalize cmpB x y = p at *
  generalize cmpB a b = q at *
  have hb4 := hb3.alloc hb3.size (.cells #[.int .i64 p, .int .i64 q] 3)
  have CO := kept (or2_any w2.heap.size p q (w2.alloc (.cells #[.int .i64 p, .int .i64 q] 3)) (by simp) (by simp))
  go_wp2_with fail
  refine CO.out.mono ?_
  rintro e w' ⟨rfl, rfl⟩
  go_wp2_with fail
  go_ret
  exact ⟨by rw [HF.out]; rfl, hb4⟩
theorem bytesLess_irrefl : ∀ x : List UInt8, Op.bytesLess x x = false
  | [] => rfl
  | a :: x => by simp [Op.bytesLess, bytesLess_irrefl x, UInt8.lt_irrefl]
theorem rcmp_any (a b : ByteArray) (w : World) (ha : a.size ≤ 4294967000) (hb : b.size ≤ 4294967000) : Calls Tryz.prog 95 #[.string a, .string b] w fun e w' => e = .returned (.int .i64 (cmpF a b)) ∧ Below w.heap.size w w' := by
  have C1 := kept (rfold_any a w ha)
  have C2 := kept (fun (W : World) => rfold_any b W hb)
  have HF : Kept (cmpF a b = or2 (cmpB (foldB a) (foldB b)) (cmpB a b)) := ⟨rfl⟩
  generalize foldB a = x at *
  generalize foldB b = y at *
  have irr : ∀ u v : ByteArray, Op.bytesLess u.toList v.toList = true → (u.toList == v.toList) = false := fun u v h => by
    cases e : (u.toList == v.toList) with
    | false => rfl
    | true => rw [beq_iff_eq.1 e, bytesLess_irrefl] at h; cases h
  have i1 := irr x y
  have i2 := irr a b
  clear irr
  go_enter Tryz.func95, Tryz.ntmps95
  go_wp2_with fail
  refine C1.out.mono ?_
  rintro e w1 ⟨rfl, hb1⟩
  go_wp2_with fail
  refine (C2.out _).mono ?_
  rintro e w2 ⟨rfl, hb2⟩
  have hb3 : Below w.heap.size w w2 := hb1.trans (hb2.mono hb1.size)
  clear C1 C2
  cases l1 : Op.bytesLess x.toList y.toList with
  | true =>
    have HR : Kept (cmpF a b = -1) := ⟨by rw [HF.out, cmpB_lt l1]; rfl⟩
    clear i1 i2 HF
    go_wp2_with fail
    go_ret
    exact ⟨by rw [HR.out]; rfl, hb3⟩
  | false =>
    clear i1
    cases e1 : (x.toList == y.toList) with
    | false =>
      have HR : Kept (cmpF a b = 1) := ⟨by rw [HF.out, cmpB_gt l1 e1]; rfl⟩
      clear i2 HF
      go_wp2_with fail
      go_ret
      exact ⟨by rw [HR.out]; rfl, hb3⟩
    | true =>
      cases l2 : Op.bytesLess a.toList b.toList with
      | true =>
        have HR : Kept (cmpF a b = -1) := ⟨by rw [HF.out, cmpB_eq l1 e1, cmpB_lt l2]; rfl⟩
        clear i2 HF
        go_wp2_with fail
        go_ret
        exact ⟨by rw [HR.out]; rfl, hb3⟩
      | false =>
        clear i2
        cases e2 : (a.toList == b.toList) with
        | false =>
          have HR : Kept (cmpF a b = 1) := ⟨by rw [HF.out, cmpB_eq l1 e1, cmpB_gt l2 e2]; rfl⟩
          clear HF
          go_wp2_with fail
          go_ret
          exact ⟨by rw [HR.out]; rfl, hb3⟩
        | true =>
          have HR : Kept (cmpF a b = 0) := ⟨by rw [HF.out, cmpB_eq l1 e1, cmpB_eq l2 e2]; rfl⟩
          clear HF
          go_wp2_with fail
          go_ret
          exact ⟨by rw [HR.out]; rfl, hb3⟩
end Go.Proofs.YtfkfpanhbanljaaGreatDoor.Fold
