/- Layer 41 (past): dead, Live. -/
import Derived.Test.YtnmcclkpgbdenaaPastOuts
import Derived.Test.YtnmcclkpgbdenaaPastMath
namespace Go.Proofs.Ytnmcclkpgbdenaa.Past
open Go.RowKit Go.Proofs.Ytnmcclkpgbdenaa.Mem Go.Proofs.Ytnmcclkpgbdenaa.Mask

theorem bnx {w w1 w2 : World} (h : Below w.heap.size w w1) (h2 : Below w1.heap.size w1 w2) : Below w.heap.size w w2 := h.trans (h2.mono h.size)
theorem allI_i64 {m : List Nat} (h : m.length ≤ 1000000) {x : Int} (hx : x ∈ allI m) : -9223372036854775808 ≤ x ∧ x ≤ 9223372036854775807 := by
  have := allI_range hx
  omega
theorem any_take {α : Type} (p : α → Bool) (l : List α) (k : Nat) {x : α} (hx : l[k]? = some x) (h : (l.take k).any p = false) : (l.take (k + 1)).any p = p x := by
  rw [List.take_add_one, hx]
  simp [List.any_append, h]
theorem dead_any (S : Nat → Prop) (g : Nat) (fs : List FactM) (k : Int) (A : Option Addr) (n c : Nat) (m : List Nat) (w : World) (h : Pst w S g fs) (hk : -9223372036854775808 ≤ k ∧ k ≤ 9223372036854775807) (hn : n = m.length) (hw : AllW m) (hr : Rd w w.heap.size A (WB m)) (hsz : m.length ≤ 1000000) :
    Calls Try.prog 64 #[.pointer (some ⟨g, 0, none⟩), .slice A n c, .int .i64 k] w fun e w' => e = .returned (.bool (deadM fs m k)) ∧ Below w.heap.size w w' := by
  subst hn
  have CA := kept (all_any A m.length c m w rfl hw hr (by omega))
  have CO := kept (fun W (hb : Below w.heap.size w W) x (hx : x ∈ allI m) => outs_any S g fs x k W (h.next hb) (allI_i64 hsz hx) hk)
  have hlen : (allI m).length ≤ 64 * m.length := by unfold allI; exact allTo_length _ _
  unfold deadM
  generalize allI m = l at *
  clear hr h
  go_enter Try.func64, Try.ntmps64
  go_wp2_with fail
  refine CA.out.mono ?_
  rintro e w1 ⟨B1, c1, rfl, ho1, hc1, hb1⟩
  have HO1 := kept ho1
  have HB1 := kept hb1
  clear ho1 CA hb1
  go_wp2
  go_loopw [12] (fun i wr => ∃ (j : Nat), j ≤ l.length ∧ i = .int .i64 (j : Int) ∧ Kept ((l.take j).any (fun n => outsM fs n k) = false) ∧ Below w1.heap.size w1 wr) (fun i _ => l.length - (intOf i).toNat)
  case atStart => exact ⟨0, Nat.zero_le _, rfl, ⟨rfl⟩, Below.refl _ _⟩
  case round =>
    obtain ⟨j, hj, rfl, hno, hb⟩ := hrel
    by_cases hlt : j < l.length
    · obtain ⟨x, hx⟩ : ∃ x, l[j]? = some x := ⟨_, List.getElem?_eq_getElem hlt⟩
      obtain ⟨b, o, rfl, hbb, hcell⟩ := (HO1.out.rd.below hb).at_ (k := j) (u := .int .i64 x) (by simp [IB, hx])
      have hat := any_take (fun n => outsM fs n k) l j hx hno.out
      have CO2 := kept (CO.out wr (bnx HB1.out hb) x (List.mem_of_getElem? hx))
      have hjn : (j : Int) < (l.length : Int) := by omega
      have HB := kept hb
      have HX := kept hx
      generalize hou : outsM fs x k = ou at *
      have HAT := kept hat
      have HOU := kept hou
      clear hat hno hb hx hou
      cases ou with
      | false =>
        go_wp2_with fail
        refine CO2.out.mono ?_
        rintro e w2 ⟨rfl, hb2⟩
        have HB2 := kept (bnx HB.out hb2)
        clear hb2
        go_wp2
        go_roundw
        case rel => exact ⟨j + 1, by omega, by go_num, HAT, HB2.out⟩
        case measure => simp [intOf]; omega
      | true =>
        have hres : l.any (fun n => outsM fs n k) = true := List.any_eq_true.2 ⟨x, List.mem_of_getElem? HX.out, HOU.out⟩
        have HRES := kept hres
        clear hres
        go_wp2_with fail
        refine CO2.out.mono ?_
        rintro e w2 ⟨rfl, hb2⟩
        have HB2 := kept (bnx HB1.out (bnx HB.out hb2))
        clear hb2
        go_wp2
        go_ret
        rw [HRES.out]
        exact ⟨rfl, HB2.out⟩
    · have hz : l.any (fun n => outsM fs n k) = false := by rw [← hno.out, List.take_of_length_le (by omega)]
      have HZ := kept hz
      have HB2 := kept (bnx HB1.out hb)
      clear hb hno hz
      go_wp2
      go_ret
      rw [HZ.out]
      exact ⟨rfl, HB2.out⟩
theorem there_all (N : Nat) (m : List Nat) : AllW (thereM N m) ∧ (thereM N m).length ≤ 16 := ⟨of_all _, of_length _⟩
set_option maxHeartbeats 4000000 in
theorem live_any (S : Nat → Prop) (g : Nat) (fs : List FactM) (A : Option Addr) (n c : Nat) (m : List Nat) (w : World) (h : Pst w S g fs) (hn : n = m.length) (hw : AllW m) (hr : Rd w w.heap.size A (WB m)) (hsz : m.length ≤ 1000000) :
    Calls Try.prog 35 #[.pointer (some ⟨g, 0, none⟩), .slice A n c] w (GivesW w (liveM fs m)) := by
  have CT := kept (there_any _ fs.length A n c m w h.len hn hw hr hsz)
  obtain ⟨hta, htl⟩ := there_all fs.length m
  have hlt : ∀ x ∈ allI (thereM fs.length m), 0 ≤ x ∧ x < (fs.length : Int) := fun x hx => ⟨(there_lt hx).1, (there_lt hx).2.1⟩
  unfold liveM
  generalize thereM fs.length m = s at *
  have hal : (allI s).length ≤ 64 * s.length := by unfold allI; exact allTo_length _ _
  have H := kept h
  have HLT := kept hlt
  clear hr hlt h hn
  go_enter Try.func35, Try.ntmps35
  go_wp2_with fail
  refine CT.out.mono ?_
  rintro e w1 ⟨B1, c1, rfl, ho1, hc1, hb1⟩
  have HO1 := kept ho1
  have HB1 := kept hb1
  have CA := kept (all_any B1 s.length c1 s w1 rfl hta ho1.rd (by omega))
  clear ho1 CT hb1
  go_wp2_with fail
  refine CA.out.mono ?_
  rintro e w2 ⟨B2, c2, rfl, ho2, hc2, hb2⟩
  have HO2 := kept ho2
  have HB2 := kept hb2
  have CD := kept (fun W (hb : Below w2.heap.size w2 W) k (hk : -9223372036854775808 ≤ k ∧ k ≤ 9223372036854775807) => dead_any S g fs k B1 s.length c1 s W (H.out.next (bnx HB1.out (bnx hb2 hb))) hk rfl hta ((HO1.out.rd.next hb2).next hb) (by omega))
  generalize hl : allI s = l at *
  have HL := kept hl
  clear ho2 CA hb2 hl
  go_wp2
  go_loopw [5, 14] (fun v i wr => ∃ (k : Nat) (D : Option Addr) (cc : Nat) (r : List Int), k ≤ l.length ∧ i = .int .i64 (k : Int) ∧ v = .slice D r.length cc ∧ Kept (r = (l.take k).filter (keepM fs s)) ∧ Own wr w2.heap.size 3 (.slice D r.length cc) (IB r) ∧ Below w2.heap.size w2 wr) (fun _ i _ => l.length - (intOf i).toNat)
  case atStart => exact ⟨0, none, 0, [], Nat.zero_le _, rfl, rfl, ⟨rfl⟩, Own.nilv _ _ _, Below.refl _ _⟩
  case round =>
    obtain ⟨k, D, cc, r, hk, rfl, rfl, hr', hown, hb⟩ := hrel
    have hsw := hb.size
    by_cases hlt : k < l.length
    · obtain ⟨x, hx⟩ : ∃ x, l[k]? = some x := ⟨_, List.getElem?_eq_getElem hlt⟩
      obtain ⟨bb, oo, rfl, hbb, hcell⟩ := (HO2.out.rd.below hb).at_ (k := k) (u := .int .i64 x) (by simp [IB, hx])
      have hft := filter_take (keepM fs s) l k hx
      rw [← hr'.out] at hft
      have hrl : r.length ≤ 1024 := by
        have h1 : r.length ≤ (l.take k).length := by rw [hr'.out]; exact List.length_filter_le _ _
        rw [List.length_take] at h1
        omega
      obtain ⟨hx0, hx1⟩ := HLT.out x (List.mem_of_getElem? hx)
      obtain ⟨i, rfl⟩ : ∃ i : Nat, x = (i : Int) := ⟨x.toNat, by omega⟩
      obtain ⟨f, hf⟩ : ∃ f, fs[i]? = some f := ⟨_, List.getElem?_eq_getElem (by omega)⟩
      obtain ⟨X, c, bl, o, rfl, hg, hbl, hgl, ⟨-, -, a2, -⟩, -⟩ := (H.out.next (bnx HB1.out (bnx HB2.out hb))).spot hf
      have CD2 := kept (CD.out wr hb (i : Int) (by have := H.out.2.2.1; omega))
      have hkm : keepM fs s (i : Int) = (decide (f.e.kind = 1) && !deadM fs s (i : Int)) := by simp [keepM, List.getD, hf]
      rw [hkm] at hft
      have hkn : (k : Int) < (l.length : Int) := by omega
      have HOW := kept hown
      have HB := kept hb
      generalize deadM fs s (i : Int) = dd at *
      generalize f.e.kind = kd at *
      have HFT := kept hft
      clear hft hr' hown hb hkm hx hf
      by_cases hkd : kd = 1
      · subst hkd
        cases dd with
        | false =>
          go_wp2_with fail
          refine CD2.out.mono ?_
          rintro e w3 ⟨rfl, hb3⟩
          have hone : Rd (w3.alloc (.cells #[.int .i64 (i : Int)] 3)) (w3.heap.size + 1) (some ⟨w3.heap.size, 0, none⟩) (IB [(i : Int)]) := Rd.new w3 [.int .i64 (i : Int)] 3
          have hz : r.length + [(i : Int)].length ≤ 17592186044416 := by simp; omega
          have hb4 : Below w2.heap.size w2 w3 := HB.out.trans (hb3.mono hsw)
          have hba : w2.heap.size ≤ (w3.alloc (.cells #[.int .i64 (i : Int)] 3)).heap.size := by have := hb4.size; simp; omega
          have HOA := kept ((HOW.out.next hb3).alloc (.cells #[.int .i64 (i : Int)] 3))
          have hb5 : Below w2.heap.size w2 (w3.alloc (.cells #[.int .i64 (i : Int)] 3)) := hb4.alloc hb4.size _
          go_wp2_with (at_builtin; refine wpl_appI rfl (.tmp 35) (.tmp 37) rfl w2.heap.size _ r rfl HOA.out _ _ _ _ [(i : Int)] rfl rfl hone hz hba ?_; intro A2 c2 w4 r2 hr2 hown2 hg2 hb6; have HR2 := kept hr2.out; have HO3 := kept hown2; have HB3 := kept (hb5.trans hb6); clear hr2 hown2 hg2 hb6 hb5)
          go_roundw
          case rel => exact ⟨k + 1, A2, c2, r2, by omega, by go_num, rfl, ⟨by rw [HR2.out, HFT.out]; rfl⟩, HO3.out, HB3.out⟩
          case measure => simp [intOf]; omega
        | true =>
          go_wp2_with fail
          refine CD2.out.mono ?_
          rintro e w3 ⟨rfl, hb3⟩
          have HB3 := kept (HB.out.trans (hb3.mono hsw))
          have HOA := kept (HOW.out.next hb3)
          clear hb3
          go_wp2
          go_roundw
          case rel => exact ⟨k + 1, D, cc, r, by omega, by go_num, rfl, ⟨by rw [HFT.out]; simp⟩, HOA.out, HB3.out⟩
          case measure => simp [intOf]; omega
      · have hkb : ((kd : Int) == 1) = false := by simp; omega
        go_wp2
        go_roundw
        case rel => exact ⟨k + 1, D, cc, r, by omega, by go_num, rfl, ⟨by rw [HFT.out]; simp [hkd]⟩, HOW.out, HB.out⟩
        case measure => simp [intOf]; omega
    · have hz : r = l.filter (keepM fs s) := by rw [hr'.out, List.take_of_length_le (by omega)]
      have hall : AllI r := fun x hx => by
        rw [hz] at hx
        have := HLT.out x (List.mem_filter.1 hx).1
        have := H.out.2.2.1
        omega
      have hrl : r.length ≤ 1024 := by
        have h1 : r.length ≤ l.length := by rw [hz]; exact List.length_filter_le _ _
        omega
      have CO := kept (of_any D r.length cc r wr rfl hall hown.rd (by omega))
      have HZ := kept hz
      have HB := kept (bnx HB1.out (bnx HB2.out hb))
      clear hz hr' hown hb
      go_wp2_with fail
      refine CO.out.mono ?_
      rintro e w3 ⟨A3, c3, rfl, ho3, hc3, hb3⟩
      have HO3 := kept (ho3.mono HB.out.size)
      have HB3 := kept (bnx HB.out hb3)
      clear ho3 hb3
      go_wp2
      go_ret
      show GivesW w (ofI (List.filter (keepM fs s) (allI s))) _ _
      rw [HL.out, ← HZ.out]
      exact ⟨A3, c3, rfl, HO3.out, hc3, HB3.out⟩
end Go.Proofs.Ytnmcclkpgbdenaa.Past
