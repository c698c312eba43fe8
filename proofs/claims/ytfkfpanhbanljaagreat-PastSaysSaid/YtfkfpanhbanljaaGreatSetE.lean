import Derived.Test.YtfkfpanhbanljaaGreatPastAdd
import Derived.Test.YtfkfpanhbanljaaGreatSetC
/- Layer 41 (past): are facts few; the example. -/
namespace Go.Proofs.YtfkfpanhbanljaaGreat.Past
open Go.RowKit Go.Proofs.YtfkfpanhbanljaaGreat.Mem Go.Proofs.YtfkfpanhbanljaaGreat.Mask

def evE : Elem EvM := ⟨EvM.cells, 7, by decide, fun _ => rfl, fun x u hu => by
  simp only [EvM.cells, List.mem_cons, List.not_mem_nil, or_false] at hu
  rcases hu with rfl | rfl | rfl | rfl | rfl | rfl | rfl <;> rfl⟩
def few1 (e : EvM) : Bool := decide (e.kn ≤ 300) && decide (e.text.size ≤ 200)
theorem few1_any (X : Option Addr) (c : Nat) (e : EvM) (w : World) (hr : evE.Rd w w.heap.size X [e]) :
    Calls Tryz.prog 21 #[.slice X 1 c, .int .i64 1] w fun en w' => en = .returned (.bool (few1 e)) ∧ w = w' := by
  obtain ⟨b, o, rfl, hb, hc⟩ := hr.at_ (i := 0) rfl
  obtain ⟨dev, n, kind, cid, field, text, kA, kn, kc⟩ := e
  have c5 : w.cell? ⟨b, o + 5, none⟩ = some (.string text) := by simpa [evE] using hc 5 _ rfl
  have c6 : w.cell? ⟨b, o + 6, none⟩ = some (.slice kA kn kc) := by simpa [evE] using hc 6 _ rfl
  have hf1 : few1 ⟨dev, n, kind, cid, field, text, kA, kn, kc⟩ = (decide (kn ≤ 300) && decide (text.size ≤ 200)) := rfl
  rw [hf1]
  clear hr hc hf1
  by_cases h1 : kn ≤ 300
  · by_cases h2 : text.size ≤ 200
    · rw [decide_eq_true h1, decide_eq_true h2]
      go_enter Tryz.func21, Tryz.ntmps21
      go_wp2
      go_loopw [5] (fun i wr => ∃ j : Nat, j ≤ 1 ∧ i = .int .i64 (j : Int) ∧ wr = w) (fun i _ => 1 - (intOf i).toNat)
      case atStart => exact ⟨0, by omega, rfl, (by first | rfl | trivial)⟩
      case round =>
        obtain ⟨j, hj, rfl, rfl⟩ := hrel
        have hj2 : j = 0 ∨ j = 1 := by omega
        rcases hj2 with rfl | rfl
        · go_wp2
          go_roundw
          case rel => exact ⟨1, by omega, rfl, (by first | rfl | trivial)⟩
          case measure => simp [intOf]
        · go_wp2
          go_ret
          exact ⟨rfl, rfl⟩
    · rw [decide_eq_true h1, decide_eq_false h2]
      go_enter Tryz.func21, Tryz.ntmps21
      go_wp2
      go_loopw [5] (fun i wr => ∃ j : Nat, j ≤ 0 ∧ i = .int .i64 (j : Int) ∧ wr = w) (fun i _ => 1 - (intOf i).toNat)
      case atStart => exact ⟨0, by omega, rfl, (by first | rfl | trivial)⟩
      case round =>
        obtain ⟨j, hj, rfl, rfl⟩ := hrel
        obtain rfl : j = 0 := by omega
        go_wp2
        go_ret
        exact ⟨rfl, rfl⟩
  · rw [decide_eq_false h1, Bool.false_and]
    go_enter Tryz.func21, Tryz.ntmps21
    go_wp2
    go_loopw [5] (fun i wr => ∃ j : Nat, j ≤ 0 ∧ i = .int .i64 (j : Int) ∧ wr = w) (fun i _ => 1 - (intOf i).toNat)
    case atStart => exact ⟨0, by omega, rfl, (by first | rfl | trivial)⟩
    case round =>
      obtain ⟨j, hj, rfl, rfl⟩ := hrel
      obtain rfl : j = 0 := by omega
      go_wp2
      go_ret
      exact ⟨rfl, rfl⟩
/-- few facts: the law's 'few' -/
def fewP (x : FactM) : Bool := decide (x.m.length ≤ 20) && few1 x.e
def fewM (ls : List FactM) : Bool := decide (ls.length ≤ 25) && ls.all fewP
theorem all_take {α : Type} (p : α → Bool) (l : List α) (k : Nat) {x : α} (hx : l[k]? = some x) (h : (l.take k).all p = true) : (l.take (k + 1)).all p = p x := by
  rw [List.take_add_one, hx, List.all_append, h]
  simp
theorem few_any (X : Option Addr) (n c : Nat) (ls : List FactM) (w : World) (hn : n = ls.length) (hr : factE.Rd w w.heap.size X ls) (hsz : ls.length ≤ 9223372036854775807) :
    Calls Tryz.prog 4 #[.slice X n c] w fun en w' => en = .returned (.bool (fewM ls)) ∧ Below w.heap.size w w' := by
  subst hn
  unfold fewM
  by_cases h25 : ls.length ≤ 25
  · rw [decide_eq_true h25, Bool.true_and]
    go_enter Tryz.func4, Tryz.ntmps4
    go_wp2
    go_loopw [3] (fun i wr => ∃ k : Nat, k ≤ ls.length ∧ i = .int .i64 (k : Int) ∧ Kept ((ls.take k).all fewP = true) ∧ Below w.heap.size w wr) (fun i _ => ls.length - (intOf i).toNat)
    case atStart => exact ⟨0, Nat.zero_le _, rfl, ⟨rfl⟩, Below.refl _ _⟩
    case round =>
      obtain ⟨k, hk, rfl, hall, hb⟩ := hrel
      by_cases hlt : k < ls.length
      · obtain ⟨x, hx⟩ : ∃ x, ls[k]? = some x := ⟨_, List.getElem?_eq_getElem hlt⟩
        obtain ⟨b, o, rfl, hbb, hc⟩ := (hr.next hb).at_ hx
        have hat := all_take fewP ls k hx hall.out
        have hmem := List.mem_of_getElem? hx
        have hfp : fewP x = (decide (x.m.length ≤ 20) && few1 x.e) := rfl
        have HNO : Kept (fewP x = false → ls.all fewP = false) := ⟨fun h => by rw [← Bool.not_eq_true, List.all_eq_true]; intro h2; rw [h2 x hmem] at h; cases h⟩
        rw [hfp] at hat HNO
        obtain ⟨⟨dev, ne, kind, cid, field, text, kA, kn, kc⟩, xA, xm, xc⟩ := x
        dsimp only at hat HNO
        have c0 : wr.cell? ⟨b, o + k * 8, none⟩ = some (.int .u16 (dev : Int)) := hc 0 _ rfl
        have c1 : wr.cell? ⟨b, o + k * 8 + 1, none⟩ = some (.int .u64 (ne : Int)) := hc 1 _ rfl
        have c2 : wr.cell? ⟨b, o + k * 8 + 2, none⟩ = some (.int .u8 (kind : Int)) := hc 2 _ rfl
        have c3 : wr.cell? ⟨b, o + k * 8 + 3, none⟩ = some (.int .u64 (cid : Int)) := hc 3 _ rfl
        have c4 : wr.cell? ⟨b, o + k * 8 + 4, none⟩ = some (.int .u8 (field : Int)) := hc 4 _ rfl
        have c5 : wr.cell? ⟨b, o + k * 8 + 5, none⟩ = some (.string text) := hc 5 _ rfl
        have c6 : wr.cell? ⟨b, o + k * 8 + 6, none⟩ = some (.slice kA kn kc) := hc 6 _ rfl
        have c7 : wr.cell? ⟨b, o + k * 8 + 7, none⟩ = some (.slice xA xm.length xc) := hc 7 _ rfl
        have hkn : (k : Int) < (ls.length : Int) := by omega
        have HB := kept hb
        have hone : evE.Rd (wr.alloc (.cells #[.int .u16 (dev : Int), .int .u64 (ne : Int), .int .u8 (kind : Int), .int .u64 (cid : Int), .int .u8 (field : Int), .string text, .slice kA kn kc] 38)) (wr.heap.size + 1) (some ⟨wr.heap.size, 0, none⟩) [⟨dev, ne, kind, cid, field, text, kA, kn, kc⟩] := Rd.new wr (EvM.cells ⟨dev, ne, kind, cid, field, text, kA, kn, kc⟩) _
        have CF := kept (few1_any _ 1 ⟨dev, ne, kind, cid, field, text, kA, kn, kc⟩ _ (hone.more (by simp)))
        have HB2 : Kept (Below w.heap.size w (wr.alloc (.cells #[.int .u16 (dev : Int), .int .u64 (ne : Int), .int .u8 (kind : Int), .int .u64 (cid : Int), .int .u8 (field : Int), .string text, .slice kA kn kc] 38))) := ⟨hb.alloc hb.size _⟩
        generalize few1 ⟨dev, ne, kind, cid, field, text, kA, kn, kc⟩ = f1 at *
        have HAT := kept hat
        clear hc hx hat hall hfp hmem hone hb
        by_cases h20 : xm.length ≤ 20
        · rw [decide_eq_true h20, Bool.true_and] at HAT HNO
          cases f1 with
          | true =>
            go_wp2_with fail
            refine CF.out.mono ?_
            rintro en w2 ⟨rfl, hw2⟩
            subst hw2
            go_wp2
            go_roundw
            case rel => exact ⟨k + 1, by omega, by go_num, HAT, HB2.out⟩
            case measure => simp [intOf]; omega
          | false =>
            have HR := kept (HNO.out rfl)
            go_wp2_with fail
            refine CF.out.mono ?_
            rintro en w2 ⟨rfl, hw2⟩
            subst hw2
            go_wp2
            go_ret
            rw [HR.out]
            exact ⟨rfl, HB2.out⟩
        · rw [decide_eq_false h20, Bool.false_and] at HNO
          have HR := kept (HNO.out rfl)
          go_wp2
          go_ret
          rw [HR.out]
          exact ⟨rfl, HB.out⟩
      · have hz : ls.all fewP = true := by rw [← hall.out, List.take_of_length_le (by omega)]
        have HZ := kept hz
        clear hz hall
        go_wp2
        go_ret
        rw [HZ.out]
        exact ⟨rfl, hb⟩
  · rw [decide_eq_false h25, Bool.false_and]
    go_enter Tryz.func4, Tryz.ntmps4
    go_wp2
    go_ret
    exact ⟨rfl, Below.refl _ _⟩
end Go.Proofs.YtfkfpanhbanljaaGreat.Past

/- Layer 41 (past): the example. -/
namespace Go.Proofs.YtfkfpanhbanljaaGreat.Past
open Go.RowKit Go.Proofs.YtfkfpanhbanljaaGreat.Mem Go.Proofs.YtfkfpanhbanljaaGreat.Mask

theorem wone (w : World) (x : Nat) : Rd (w.alloc (.cells #[.int .u64 (x : Int)] 33)) (w.alloc (.cells #[.int .u64 (x : Int)] 33)).heap.size (some ⟨w.heap.size, 0, none⟩) (WB [x]) := (Rd.new w [.int .u64 (x : Int)] 33).more (by simp)
theorem all_nil : AllW [] := fun x hx => by cases hx
theorem all_one {x : Nat} (h : x < 18446744073709551616) : AllW [x] := fun y hy => by
  obtain rfl : y = x := by simpa using hy
  exact h
def wEdit : EvM := ⟨0, 0, 1, 5, 1, ⟨#[]⟩, none, 0, 0⟩
def wDel : EvM := ⟨0, 0, 2, 5, 0, ⟨#[]⟩, none, 0, 0⟩
theorem live7 (A B C : Option Addr) (a b c : Nat) : liveM (addF (addF (addF [] wEdit [] A a) wEdit [1] B b) wDel [1] C c) [7] = [2] := by
  have h0 : thereM 0 [] = [] := by decide +kernel
  have h1 : thereM 1 [1] = [1] := by decide +kernel
  have h2 : thereM 2 [1] = [1] := by decide +kernel
  have h3 : thereM 3 [7] = [7] := by decide +kernel
  have h4 : allI [7] = [0, 1, 2] := by decide +kernel
  have e : addF (addF (addF [] wEdit [] A a) wEdit [1] B b) wDel [1] C c = [⟨wEdit, A, [], a⟩, ⟨wEdit, B, [1], b⟩, ⟨wDel, C, [1], c⟩] := by
    show [_, _, _] = _
    simp only [wEdit, wDel, List.length_nil, List.length_cons, h0, h1, h2]
    rfl
  rw [e]
  unfold liveM
  simp only [List.length_nil, List.length_cons, h3, h4]
  have k0 : keepM [⟨wEdit, A, [], a⟩, ⟨wEdit, B, [1], b⟩, ⟨wDel, C, [1], c⟩] [7] 0 = false := by kernel_rfl
  have k1 : keepM [⟨wEdit, A, [], a⟩, ⟨wEdit, B, [1], b⟩, ⟨wDel, C, [1], c⟩] [7] 1 = true := by kernel_rfl
  have k2 : keepM [⟨wEdit, A, [], a⟩, ⟨wEdit, B, [1], b⟩, ⟨wDel, C, [1], c⟩] [7] 2 = false := by kernel_rfl
  simp only [List.filter_cons, List.filter_nil, k0, k1, k2, Bool.false_eq_true, if_false, if_true]
  decide +kernel
set_option maxRecDepth 100000 in
set_option maxHeartbeats 4000000 in
theorem works_any (w : World) : Calls Tryz.prog 5 #[] w fun e w' => e = .returned (.bool true) ∧ Below w.heap.size w w' := by
  have CN := kept (new_any w)
  have HL := kept live7
  go_enter Tryz.func5, Tryz.ntmps5
  go_wp2_with fail
  refine CN.out.mono ?_
  rintro en w1 ⟨rfl, hP, hb⟩
  have HB1 := kept hb
  have HP1 := kept hP
  clear hb hP CN
  have hE : Below w1.heap.size w1 (w1.alloc (.cells #[.int .u16 0, .int .u64 0, .int .u8 1, .int .u64 5, .int .u8 1, .string ⟨#[]⟩, .slice none 0 0] 38)) := (Below.refl _ _).alloc (Nat.le_refl _) _
  have KE := kept (Blk.new w1 [.int .u16 0, .int .u64 0, .int .u8 1, .int .u64 5, .int .u8 1, .string ⟨#[]⟩, .slice none 0 0] 38)
  have HE := kept hE
  have CA := kept (add_yes _ _ [] wEdit none 0 0 [] _ (HP1.out.next hE) ⟨.inl rfl, by simp⟩ rfl all_nil Rd.nil (by simp))
  have hsz := HP1.out.2.1 _ rfl
  clear hE
  go_wp2_with fail
  refine CA.out.mono ?_
  rintro en w2 ⟨rfl, S2, A2, c2, hP2, hG2, -⟩
  have HP2 := kept hP2
  have hKE2 := KE.out.upd hG2.1 (fun e => by omega)
  have HB2 := kept ((HB1.out.trans (HE.out.mono HB1.out.size)).trans (hG2.below (B := w.heap.size) (by have := HE.out.size; omega) (fun i e => by omega)))
  have HS2 : Kept (∀ k, S2 k → w.heap.size ≤ k ∧ k ≠ w1.heap.size) := ⟨fun k hk => (hG2.2 k hk).elim (fun h => ⟨by omega, by omega⟩) (fun h => by simp at h; omega)⟩
  have g0 := hKE2.cell (j := 0) rfl; have g1 := hKE2.cell (j := 1) rfl; have g2 := hKE2.cell (j := 2) rfl; have g3 := hKE2.cell (j := 3) rfl; have g4 := hKE2.cell (j := 4) rfl; have g5 := hKE2.cell (j := 5) rfl; have g6 := hKE2.cell (j := 6) rfl
  have hl2 := hKE2.lt
  have hE : Below w2.heap.size w2 (w2.alloc (.cells #[.int .u64 1] 33)) := (Below.refl _ _).alloc (Nat.le_refl _) _
  have CA2 := kept (add_yes _ _ _ wEdit _ 1 1 [1] _ (HP2.out.next hE) ⟨.inl rfl, by simp [addF]⟩ rfl (all_one (by decide)) (wone w2 1) (by simp))
  have HE2 := kept hE
  clear hP2 hG2 CA hE hKE2
  go_wp2_with fail
  refine CA2.out.mono ?_
  rintro en w3 ⟨rfl, S3, A3, c3, hP3, hG3, -⟩
  have HP3 := kept hP3
  have HB3 := kept ((HB2.out.trans (HE2.out.mono HB2.out.size)).trans (hG3.below (B := w.heap.size) (by have := HE2.out.size; have := HB2.out.size; omega) (fun i e => (HS2.out i e).1)))
  have HS3 : Kept (∀ k, S3 k → w.heap.size ≤ k) := ⟨fun k hk => (hG3.2 k hk).elim (fun h => (HS2.out k h).1) (fun h => by have := HE2.out.size; have := HB2.out.size; omega)⟩
  have hE : Below w3.heap.size w3 (w3.alloc (.cells #[.int .u64 1] 33)) := (Below.refl _ _).alloc (Nat.le_refl _) _
  have CA3 := kept (add_yes _ _ _ wDel _ 1 1 [1] _ (HP3.out.next hE) ⟨.inr rfl, by simp [addF]⟩ rfl (all_one (by decide)) (wone w3 1) (by simp))
  have HE3 := kept hE
  clear hP3 hG3 CA2 hE g0 g1 g2 g3 g4 g5 g6
  go_wp2_with fail
  refine CA3.out.mono ?_
  rintro en w4 ⟨rfl, S4, A4, c4, hP4, hG4, -⟩
  have HP4 := kept hP4
  have HB4 := kept ((HB3.out.trans (HE3.out.mono HB3.out.size)).trans (hG4.below (B := w.heap.size) (by have := HE3.out.size; have := HB3.out.size; omega) (fun i e => HS3.out i e)))
  have hE : Below w4.heap.size w4 (w4.alloc (.cells #[.int .u64 7] 33)) := (Below.refl _ _).alloc (Nat.le_refl _) _
  have CL := kept (live_any _ _ _ _ 1 1 [7] _ (HP4.out.next hE) rfl (all_one (by decide)) (wone w4 7) (by simp))
  rw [HL.out] at CL
  have HE4 := kept (HB4.out.trans (hE.mono HB4.out.size))
  clear hP4 hG4 CA3 hE
  go_wp2_with fail
  refine CL.out.mono ?_
  rintro en w5 ⟨A5, c5, rfl, ho5, -, hb5⟩
  have HB5 := kept (HE4.out.trans (hb5.mono HE4.out.size))
  have hE : Below w5.heap.size w5 (w5.alloc (.cells #[.int .u64 2] 33)) := (Below.refl _ _).alloc (Nat.le_refl _) _
  have CE := kept (eq_any _ _ A5 _ 1 1 c5 1 [2] [2] _ rfl rfl (ho5.rd.next hE) (wone w5 2) (by simp))
  have HB6 := kept (HB5.out.trans (hE.mono HB5.out.size))
  clear ho5 hb5 CL hE
  go_wp2_with fail
  refine CE.out.mono ?_
  rintro en w6 ⟨rfl, q, rfl⟩
  have HB7 := kept (HB6.out.trans (below_draw _ _ q))
  go_wp2
  go_ret
  exact ⟨rfl, HB7.out⟩
theorem pworks_any (w : World) : Calls Tryz.prog 5 #[] w fun e w' => e = .returned (.bool true) ∧ Below w.heap.size w w' := works_any w
end Go.Proofs.YtfkfpanhbanljaaGreat.Past
