/- Layer 41 (past): the calls that read. -/
import Derived.Test.YtnmcclkpgbdenaaPastMath
import Derived.Deep.RegionWith
namespace Go.Proofs.Ytnmcclkpgbdenaa.Past
open Go.RowKit Go.Proofs.Ytnmcclkpgbdenaa.Mem Go.Proofs.Ytnmcclkpgbdenaa.Mask

theorem len_any (p : Value) (N : Nat) (w : World) (h : PLen w p N) : Calls Try.prog 32 #[p] w fun e w' => e = .returned (.int .i64 (N : Int)) ∧ w = w' := by
  rcases h with ⟨rfl, rfl⟩ | ⟨g, X, c, t, rfl, hk⟩
  · go_enter Try.func32, Try.ntmps32
    go_wp2
    go_ret
    exact ⟨rfl, rfl⟩
  · have h0 : w.cell? ⟨g, 0, none⟩ = some (.slice X N c) := hk.cell rfl
    have hlt := hk.lt
    go_enter Try.func32, Try.ntmps32
    go_wp2
    go_ret
    exact ⟨rfl, rfl⟩
theorem is_any (p : Value) (N : Nat) (n : Int) (w : World) (h : PLen w p N) : Calls Try.prog 60 #[p, .int .i64 n] w fun e w' => e = .returned (.bool (decide (0 ≤ n ∧ n < N))) ∧ w = w' := by
  have C := kept (len_any p N w h)
  by_cases h0 : 0 ≤ n
  · by_cases h1 : n < N
    · rw [decide_eq_true ⟨h0, h1⟩]
      go_enter Try.func60, Try.ntmps60
      go_wp2_with fail
      refine C.out.mono ?_
      rintro e w' ⟨rfl, rfl⟩
      go_wp2
      go_ret
      exact ⟨rfl, rfl⟩
    · rw [decide_eq_false (fun h => h1 h.2)]
      have hf : decide (n < (N : Int)) = false := decide_eq_false h1
      go_enter Try.func60, Try.ntmps60
      go_wp2_with fail
      refine C.out.mono ?_
      rintro e w' ⟨rfl, rfl⟩
      go_wp2
      go_ret
      first | exact ⟨rfl, rfl⟩ | exact ⟨congrArg (fun b => Ending.returned (.bool b)) hf, rfl⟩
  · rw [decide_eq_false (fun h => h0 h.1)]
    go_enter Try.func60, Try.ntmps60
    go_wp2
    go_ret
    exact ⟨rfl, rfl⟩
theorem filter_take {α : Type} (p : α → Bool) (l : List α) (k : Nat) {x : α} (hx : l[k]? = some x) : (l.take (k + 1)).filter p = (l.take k).filter p ++ (if p x = true then [x] else []) := by
  rw [List.take_add_one, hx]
  simp only [Option.toList_some, List.filter_append, List.filter_cons, List.filter_nil]
theorem there_any (p : Value) (N : Nat) (A : Option Addr) (n c : Nat) (m : List Nat) (w : World) (h : PLen w p N) (hn : n = m.length) (hw : AllW m) (hr : Rd w w.heap.size A (WB m)) (hsz : m.length ≤ 1000000) :
    Calls Try.prog 59 #[p, .slice A n c] w (GivesW w (thereM N m)) := by
  subst hn
  have CA := kept (all_any A m.length c m w rfl hw hr (by omega))
  have CL := kept (fun W (hb : Below w.heap.size w W) => len_any p N W (h.next hb))
  have hrg : ∀ x ∈ allI m, 0 ≤ x ∧ x < 64 * m.length := fun x hx => ⟨(allI_range hx).1, (allI_range hx).2.1⟩
  have hlen : (allI m).length ≤ 64 * m.length := by unfold allI; exact allTo_length _ _
  unfold thereM
  generalize allI m = l at *
  have HRG := kept hrg
  have hl64 : l.length ≤ 64000000 := by omega
  clear hr hrg hlen
  go_enter Try.func59, Try.ntmps59
  go_wp2_with fail
  refine CA.out.mono ?_
  rintro e w1 ⟨B1, c1, rfl, ho1, hc1, hb1⟩
  have HO1 := kept ho1
  have HB1 := kept hb1
  clear ho1 CA hb1
  go_wp2
  go_loopw [5, 11] (fun v i wr => ∃ (k : Nat) (D : Option Addr) (cc : Nat) (r : List Int), k ≤ l.length ∧ i = .int .i64 (k : Int) ∧ v = .slice D r.length cc ∧ Kept (r = (l.take k).filter fun n => decide (n < (N : Int))) ∧ Own wr w1.heap.size 3 (.slice D r.length cc) (IB r) ∧ Below w1.heap.size w1 wr) (fun _ i _ => l.length - (intOf i).toNat)
  case atStart => exact ⟨0, none, 0, [], Nat.zero_le _, rfl, rfl, ⟨rfl⟩, Own.nilv _ _ _, Below.refl _ _⟩
  case round =>
    obtain ⟨k, D, cc, r, hk, rfl, rfl, hr', hown, hb⟩ := hrel
    have hsw := hb.size
    by_cases hlt : k < l.length
    · obtain ⟨x, hx⟩ : ∃ x, l[k]? = some x := ⟨_, List.getElem?_eq_getElem hlt⟩
      obtain ⟨b, o, rfl, hbb, hcell⟩ := (HO1.out.rd.below hb).at_ (k := k) (u := .int .i64 x) (by simp [IB, hx])
      have hft := filter_take (fun n => decide (n < (N : Int))) l k hx
      rw [← hr'.out] at hft
      have hrl : r.length ≤ 64000000 := by
        have h1 : r.length ≤ (l.take k).length := by rw [hr'.out]; exact List.length_filter_le _ _
        rw [List.length_take] at h1
        omega
      have HFT := kept hft
      have HOW := kept hown
      have CL2 := kept (CL.out wr ((HB1.out).trans (hb.mono HB1.out.size)))
      have HB := kept hb
      have hkn : (k : Int) < (l.length : Int) := by omega
      clear hft hr' hown hb
      go_wp2_with fail
      refine CL2.out.mono ?_
      rintro e w2 ⟨rfl, rfl⟩
      by_cases hxN : x < (N : Int)
      · have hone : Rd (wr.alloc (.cells #[.int .i64 x] 3)) (wr.heap.size + 1) (some ⟨wr.heap.size, 0, none⟩) (IB [x]) := Rd.new wr [.int .i64 x] 3
        have hz : r.length + [x].length ≤ 17592186044416 := by simp; omega
        have hba : w1.heap.size ≤ (wr.alloc (.cells #[.int .i64 x] 3)).heap.size := by simp; omega
        have HOA := kept (HOW.out.alloc (.cells #[.int .i64 x] 3))
        have hb3 : Below w1.heap.size w1 (wr.alloc (.cells #[.int .i64 x] 3)) := HB.out.alloc hsw _
        go_wp2_with (at_builtin; refine wpl_appI rfl (.tmp 19) (.tmp 21) rfl w1.heap.size _ r rfl HOA.out _ _ _ _ [x] rfl rfl hone hz hba ?_; intro A2 c2 w2 r2 hr2 hown2 hg2 hb2; have HR2 := kept hr2.out; have HO2 := kept hown2; have HB2 := kept (hb3.trans hb2); clear hr2 hown2 hg2 hb2 hb3)
        go_roundw
        case rel => exact ⟨k + 1, A2, c2, r2, by omega, by go_num, rfl, ⟨by rw [HR2.out, HFT.out, if_pos (by simpa using hxN)]⟩, HO2.out, HB2.out⟩
        case measure => simp [intOf]; omega
      · go_wp2
        go_roundw
        case rel => exact ⟨k + 1, D, cc, r, by omega, by go_num, rfl, ⟨by rw [HFT.out, if_neg (by simpa using hxN), List.append_nil]⟩, HOW.out, HB.out⟩
        case measure => simp [intOf]; omega
    · have hz : r = l.filter fun n => decide (n < (N : Int)) := by rw [hr'.out, List.take_of_length_le (by omega)]
      have hall : AllI r := fun x hx => by
        rw [hz] at hx
        have := HRG.out x (List.mem_filter.1 hx).1
        omega
      have hrl : r.length ≤ 64000000 := by
        have h1 : r.length ≤ l.length := by rw [hz]; exact List.length_filter_le _ _
        omega
      have CO := kept (of_any D r.length cc r wr rfl hall hown.rd (by omega))
      rw [hz] at CO
      rw [← hz] at CO
      have HZ := kept hz
      have HB := kept (HB1.out.trans (hb.mono HB1.out.size))
      clear hz hr' hown hb
      go_wp2_with fail
      refine CO.out.mono ?_
      rintro e w3 ⟨A3, c3, rfl, ho3, hc3, hb3⟩
      have HO3 := kept (ho3.mono HB.out.size)
      have HB3 := kept (HB.out.trans (hb3.mono HB.out.size))
      clear ho3 hb3
      go_wp2
      go_ret
      rw [← HZ.out]
      exact ⟨A3, c3, rfl, HO3.out, hc3, HB3.out⟩
end Go.Proofs.Ytnmcclkpgbdenaa.Past
