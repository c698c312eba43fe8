/- Layer 41 (past): are facts few; the example. -/
import Derived.Test.YtnmcclkpgbdenaaPastAdd
import Derived.Test.YtnmcclkpgbdenaaMaskEq
namespace Go.Proofs.Ytnmcclkpgbdenaa.Past
open Go.RowKit Go.Proofs.Ytnmcclkpgbdenaa.Mem Go.Proofs.Ytnmcclkpgbdenaa.Mask

def evE : Elem EvM := ⟨EvM.cells, 7, by decide, fun _ => rfl, fun x u hu => by
  simp only [EvM.cells, List.mem_cons, List.not_mem_nil, or_false] at hu
  rcases hu with rfl | rfl | rfl | rfl | rfl | rfl | rfl <;> rfl⟩
def few1 (e : EvM) : Bool := decide (e.kn ≤ 300) && decide (e.text.size ≤ 200)
theorem few1_any (X : Option Addr) (c : Nat) (e : EvM) (w : World) (hr : evE.Rd w w.heap.size X [e]) :
    Calls Try.prog 58 #[.slice X 1 c, .int .i64 1] w fun en w' => en = .returned (.bool (few1 e)) ∧ w = w' := by
  obtain ⟨b, o, rfl, hb, hc⟩ := hr.at_ (i := 0) rfl
  obtain ⟨dev, n, kind, cid, field, text, kA, kn, kc⟩ := e
  have c5 : w.cell? ⟨b, o + 5, none⟩ = some (.string text) := by simpa [evE] using hc 5 _ rfl
  have c6 : w.cell? ⟨b, o + 6, none⟩ = some (.slice kA kn kc) := by simpa [evE] using hc 6 _ rfl
  have hf1 : few1 ⟨dev, n, kind, cid, field, text, kA, kn, kc⟩ = (decide (kn ≤ 300) && decide (text.size ≤ 200)) := rfl
  rw [hf1]
  clear hr hc hf1
  by_cases h1 : kn ≤ 300
  · by_cases h2 : text.size ≤ 200
    · rw [decide_eq_true h1, decide_eq_true h2]
      go_enter Try.func58, Try.ntmps58
      go_wp2
      go_loopw [5] (fun i wr => ∃ j : Nat, j ≤ 1 ∧ i = .int .i64 (j : Int) ∧ wr = w) (fun i _ => 1 - (intOf i).toNat)
      case atStart => exact ⟨0, by omega, rfl, (by first | rfl | trivial)⟩
      case round =>
        obtain ⟨j, hj, rfl, rfl⟩ := hrel
        have hj2 : j = 0 ∨ j = 1 := by omega
        rcases hj2 with rfl | rfl
        · go_wp2
          go_roundw
          case rel => exact ⟨1, by omega, rfl, (by first | rfl | trivial)⟩
          case measure => simp [intOf]
        · go_wp2
          go_ret
          exact ⟨rfl, rfl⟩
    · rw [decide_eq_true h1, decide_eq_false h2]
      go_enter Try.func58, Try.ntmps58
      go_wp2
      go_loopw [5] (fun i wr => ∃ j : Nat, j ≤ 0 ∧ i = .int .i64 (j : Int) ∧ wr = w) (fun i _ => 1 - (intOf i).toNat)
      case atStart => exact ⟨0, by omega, rfl, (by first | rfl | trivial)⟩
      case round =>
        obtain ⟨j, hj, rfl, rfl⟩ := hrel
        obtain rfl : j = 0 := by omega
        go_wp2
        go_ret
        exact ⟨rfl, rfl⟩
  · rw [decide_eq_false h1, Bool.false_and]
    go_enter Try.func58, Try.ntmps58
    go_wp2
    go_loopw [5] (fun i wr => ∃ j : Nat, j ≤ 0 ∧ i = .int .i64 (j : Int) ∧ wr = w) (fun i _ => 1 - (intOf i).toNat)
    case atStart => exact ⟨0, by omega, rfl, (by first | rfl | trivial)⟩
    case round =>
      obtain ⟨j, hj, rfl, rfl⟩ := hrel
      obtain rfl : j = 0 := by omega
      go_wp2
      go_ret
      exact ⟨rfl, rfl⟩
/-- few facts: the law's 'few' -/
def fewP (x : FactM) : Bool := decide (x.m.length ≤ 20) && few1 x.e
def fewM (ls : List FactM) : Bool := decide (ls.length ≤ 25) && ls.all fewP
theorem all_take {α : Type} (p : α → Bool) (l : List α) (k : Nat) {x : α} (hx : l[k]? = some x) (h : (l.take k).all p = true) : (l.take (k + 1)).all p = p x := by
  rw [List.take_add_one, hx, List.all_append, h]
  simp
theorem few_any (X : Option Addr) (n c : Nat) (ls : List FactM) (w : World) (hn : n = ls.length) (hr : factE.Rd w w.heap.size X ls) (hsz : ls.length ≤ 9223372036854775807) :
    Calls Try.prog 28 #[.slice X n c] w fun en w' => en = .returned (.bool (fewM ls)) ∧ Below w.heap.size w w' := by
  subst hn
  unfold fewM
  by_cases h25 : ls.length ≤ 25
  · rw [decide_eq_true h25, Bool.true_and]
    go_enter Try.func28, Try.ntmps28
    go_wp2
    go_loopw [3] (fun i wr => ∃ k : Nat, k ≤ ls.length ∧ i = .int .i64 (k : Int) ∧ Kept ((ls.take k).all fewP = true) ∧ Below w.heap.size w wr) (fun i _ => ls.length - (intOf i).toNat)
    case atStart => exact ⟨0, Nat.zero_le _, rfl, ⟨rfl⟩, Below.refl _ _⟩
    case round =>
      obtain ⟨k, hk, rfl, hall, hb⟩ := hrel
      by_cases hlt : k < ls.length
      · obtain ⟨x, hx⟩ : ∃ x, ls[k]? = some x := ⟨_, List.getElem?_eq_getElem hlt⟩
        obtain ⟨b, o, rfl, hbb, hc⟩ := (hr.next hb).at_ hx
        have hat := all_take fewP ls k hx hall.out
        have hmem := List.mem_of_getElem? hx
        have hfp : fewP x = (decide (x.m.length ≤ 20) && few1 x.e) := rfl
        have HNO : Kept (fewP x = false → ls.all fewP = false) := ⟨fun h => by rw [← Bool.not_eq_true, List.all_eq_true]; intro h2; rw [h2 x hmem] at h; cases h⟩
        rw [hfp] at hat HNO
        obtain ⟨⟨dev, ne, kind, cid, field, text, kA, kn, kc⟩, xA, xm, xc⟩ := x
        dsimp only at hat HNO
        have c0 : wr.cell? ⟨b, o + k * 8, none⟩ = some (.int .u16 (dev : Int)) := hc 0 _ rfl
        have c1 : wr.cell? ⟨b, o + k * 8 + 1, none⟩ = some (.int .u64 (ne : Int)) := hc 1 _ rfl
        have c2 : wr.cell? ⟨b, o + k * 8 + 2, none⟩ = some (.int .u8 (kind : Int)) := hc 2 _ rfl
        have c3 : wr.cell? ⟨b, o + k * 8 + 3, none⟩ = some (.int .u64 (cid : Int)) := hc 3 _ rfl
        have c4 : wr.cell? ⟨b, o + k * 8 + 4, none⟩ = some (.int .u8 (field : Int)) := hc 4 _ rfl
        have c5 : wr.cell? ⟨b, o + k * 8 + 5, none⟩ = some (.string text) := hc 5 _ rfl
        have c6 : wr.cell? ⟨b, o + k * 8 + 6, none⟩ = some (.slice kA kn kc) := hc 6 _ rfl
        have c7 : wr.cell? ⟨b, o + k * 8 + 7, none⟩ = some (.slice xA xm.length xc) := hc 7 _ rfl
        have hkn : (k : Int) < (ls.length : Int) := by omega
        have HB := kept hb
        have hone : evE.Rd (wr.alloc (.cells #[.int .u16 (dev : Int), .int .u64 (ne : Int), .int .u8 (kind : Int), .int .u64 (cid : Int), .int .u8 (field : Int), .string text, .slice kA kn kc] 59)) (wr.heap.size + 1) (some ⟨wr.heap.size, 0, none⟩) [⟨dev, ne, kind, cid, field, text, kA, kn, kc⟩] := Rd.new wr (EvM.cells ⟨dev, ne, kind, cid, field, text, kA, kn, kc⟩) _
        have CF := kept (few1_any _ 1 ⟨dev, ne, kind, cid, field, text, kA, kn, kc⟩ _ (hone.more (by simp)))
        have HB2 : Kept (Below w.heap.size w (wr.alloc (.cells #[.int .u16 (dev : Int), .int .u64 (ne : Int), .int .u8 (kind : Int), .int .u64 (cid : Int), .int .u8 (field : Int), .string text, .slice kA kn kc] 59))) := ⟨hb.alloc hb.size _⟩
        generalize few1 ⟨dev, ne, kind, cid, field, text, kA, kn, kc⟩ = f1 at *
        have HAT := kept hat
        clear hc hx hat hall hfp hmem hone hb
        by_cases h20 : xm.length ≤ 20
        · rw [decide_eq_true h20, Bool.true_and] at HAT HNO
          cases f1 with
          | true =>
            go_wp2_with fail
            refine CF.out.mono ?_
            rintro en w2 ⟨rfl, hw2⟩
            subst hw2
            go_wp2
            go_roundw
            case rel => exact ⟨k + 1, by omega, by go_num, HAT, HB2.out⟩
            case measure => simp [intOf]; omega
          | false =>
            have HR := kept (HNO.out rfl)
            go_wp2_with fail
            refine CF.out.mono ?_
            rintro en w2 ⟨rfl, hw2⟩
            subst hw2
            go_wp2
            go_ret
            rw [HR.out]
            exact ⟨rfl, HB2.out⟩
        · rw [decide_eq_false h20, Bool.false_and] at HNO
          have HR := kept (HNO.out rfl)
          go_wp2
          go_ret
          rw [HR.out]
          exact ⟨rfl, HB.out⟩
      · have hz : ls.all fewP = true := by rw [← hall.out, List.take_of_length_le (by omega)]
        have HZ := kept hz
        clear hz hall
        go_wp2
        go_ret
        rw [HZ.out]
        exact ⟨rfl, hb⟩
  · rw [decide_eq_false h25, Bool.false_and]
    go_enter Try.func28, Try.ntmps28
    go_wp2
    go_ret
    exact ⟨rfl, Below.refl _ _⟩
end Go.Proofs.Ytnmcclkpgbdenaa.Past
