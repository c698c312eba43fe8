/- The laws of layer 5, continued: what was sealed is opened. -/
import Derived.Test.YtfbchegfkilhpaaDoorSealLawsB
namespace Go.Proofs.YtfbchegfkilhpaaDoor.Seal
open Go.RowKit Go.Proofs.YtfbchegfkilhpaaDoor.Mem Go.Proofs.YtfbchegfkilhpaaDoor.Crc

theorem back_law (k : Nat) (A : Option Addr) (c : Nat) (l : List Nat) (w : World) (hT : Tab w) (hA : Ok w A l) (hk : k < 256) (hc : l.length ≤ c) (hsz : l.length ≤ 140737488351232) :
    Calls Tryd.prog 9 #[.int .u8 (k : Int), .slice A l.length c] w fun e w' => e = .returned (.bool true) ∧ Below w.heap.size w w' := by
  have HT := Lib.hid (fun (W : World) (h : Below w.heap.size w W) => hT.next h)
  have HA := Lib.hid (fun (W : World) (h : Below w.heap.size w W) => hA.next h)
  have hla := hA.2.1
  have hsa := sealed_all hk hA.2.1
  have hsl := sealed_length k l
  have hgood := opened_good k l
  have W6 := Lib.hid (fun (W : World) (h : Below w.heap.size w W) => works_any W (HT.out _ h))
  have C1 := Lib.hid (fun (W : World) (h : Below w.heap.size w W) (A1 : Option Addr) (c1 : Nat) (hr : Rd W W.heap.size A1 (BB l)) => seal_any k A1 l.length c1 l W rfl (HT.out _ h) hk hla hr (by omega))
  have C3 := Lib.hid (fun (W : World) (h : Below w.heap.size w W) => open_any A l.length c l W rfl (HT.out _ h) hla (HA.out _ h).1 hc (by omega))
  have C4 := Lib.hid (fun (W : World) (h : Below w.heap.size w W) => rseal_any k A l.length c l W rfl hk hla (HA.out _ h).1 (by omega))
  have C5 := Lib.hid (fun (W : World) (h : Below w.heap.size w W) (k2 : Nat) (A1 : Option Addr) (c1 : Nat) (y : List Nat) (hk2 : k2 < 256) (hy : AllB y) (hyl : y.length ≤ l.length) (hr : Rd W W.heap.size A1 (BB y)) => seal_any k2 A1 y.length c1 y W rfl (HT.out _ h) hk2 hy hr (by omega))
  have OA := Lib.hid (fun k m er (h : opened l = (k, m, er)) => opened_all hla h)
  have OB := Lib.hid (fun k m (h : opened l = (k, m, 0)) => sealed_of_opened h)
  generalize sealed k l = sl at *
  have C2 := Lib.hid (fun (W : World) (h : Below w.heap.size w W) (A1 : Option Addr) (c1 : Nat) (hr : Rd W W.heap.size A1 (BB sl)) (hc1 : sl.length ≤ c1) => open_any A1 sl.length c1 sl W rfl (HT.out _ h) hsa hr hc1 (by omega))
  have HSL := Lib.hid hsl
  have HG := Lib.hid hgood
  have hown1 : Own (w.alloc (.cells #[] 5)) w.heap.size 5 (.slice (some ⟨w.heap.size, 0, none⟩) 0 0) (BB []) := Own.new w w.heap.size 5 (BB []) (Nat.le_refl _) (by simp [BB, maxLen])
  have hr1 := hA.1.alloc (Nat.le_refl _) (.cells #[] 5)
  have hbase : w.heap.size ≤ (w.alloc (.cells #[] 5)).heap.size := by simp
  have hmz : ([] : List Nat).length + l.length ≤ 140737488355328 := by simp; omega
  clear hsl hgood
  go_enter Tryd.func9, Tryd.ntmps9
  go_wp2_with (at_builtin; refine wpl_app rfl (.tmp 14) (.tmp 15) rfl w.heap.size _ [] rfl hown1 _ _ _ _ l rfl rfl hr1 hmz hbase ?_; intro A1 c1 w1 r1 hr1' hown2 hg1 hb1')
  have hb1 : Below w.heap.size w w1 := ((Below.refl _ _).alloc (Nat.le_refl _) _).trans hb1'
  obtain rfl : r1 = l := by simpa using hr1'.out
  clear hg1 hb1' hr1' hr1 hown1 hbase hmz
  refine (C1.out _ hb1 _ _ hown2.rd).mono ?_
  rintro e w2 ⟨A2, c2, rfl, hown3, hc2, hb2⟩
  have hb12 := below_next hb1 hb2
  go_wp2_with fail
  refine (C2.out _ hb12 _ _ hown3.rd hc2).mono ?_
  rintro e w3 ⟨A3, c3, k3, x3, er3, rfl, ho3, hown4, hb3⟩
  have hb13 := below_next hb12 hb3
  have hoo := ho3.out.symm.trans HG.out
  injection hoo with e1 hoo
  injection hoo with e2 e3
  subst e1 e2 e3
  go_wp2
  go_loopw [28] (fun i wr => ∃ (j : Nat) (x : List Nat), j ≤ x3.length ∧ i = .int .i64 (j : Int) ∧ Hid (x.length = x3.length) ∧ AllB x ∧ Own wr w2.heap.size 5 (.slice A3 x3.length c3) (BB x) ∧ Below w2.heap.size w2 wr) (fun i _ => ((x3.length : Int) - intOf i).toNat)
  case atStart => exact ⟨0, x3, Nat.zero_le _, rfl, rfl, hla, hown4, hb3⟩
  case round =>
    obtain ⟨j, x, hj, rfl, hxl, hxa, hown, hb⟩ := hrel
    by_cases hin : j < x3.length
    · have hown' : Own wr w2.heap.size 5 (.slice A3 x.length c3) (BB x) := by rw [hxl.out]; exact hown
      obtain ⟨g, rfl, hg1, hg2, hgc, hgf, hgs⟩ := own_at hown' (k := j) (by rw [hxl.out]; exact hin)
      have hxb : x.getD j 0 < 256 := hxa _ (by simp [List.getD, show j < x.length from by rw [hxl.out]; exact hin])
      have hy : ((x[j]?.getD 0 : Nat) : Int) + 1 = ((x[j]?.getD 0 + 1 : Nat) : Int) := by omega
      obtain ⟨s1, _⟩ := hgs ((x[j]?.getD 0 + 1) % 256)
      have e8 : ((((x[j]?.getD 0 + 1) % 256 : Nat)) : Int) = ((x[j]?.getD 0 : Nat) + 1 : Int) % 256 := by omega
      rw [e8, hxl.out] at s1
      have hxa2 : AllB (x.set j ((x[j]?.getD 0 + 1) % 256)) := by
        intro z hz
        rcases List.mem_or_eq_of_mem_set hz with h | rfl
        · exact hxa z h
        · exact Nat.mod_lt _ (by decide)
      have hxl2 : Hid ((x.set j ((x[j]?.getD 0 + 1) % 256)).length = x3.length) := by show _ = _; rw [List.length_set]; exact hxl.out
      have hb9 := hb.setCell (p := ⟨g, j, none⟩) hg1 (.int .u8 (((x[j]?.getD 0 : Nat) + 1 : Int) % 256))
      clear hgs hy e8 hown hown'
      go_wp2
      go_roundw
      case rel => exact ⟨j + 1, _, by omega, by go_num, hxl2, hxa2, s1, hb9⟩
      case measure => simp [intOf]; omega
    · obtain rfl : j = x3.length := by omega
      have hbw : Below w.heap.size w wr := below_next hb12 hb
      go_wp2_with fail
      refine (C3.out _ hbw).mono ?_
      rintro e w4 ⟨A4, c4, k4, y, er, rfl, ho4, hown5, hb4⟩
      have hbw4 := below_next hbw hb4
      obtain ⟨hk4, hy4, hyl4, her4⟩ := OA.out _ _ _ ho4.out
      have hb14 := below_next (below_next hb2 hb) hb4
      have hb24 := below_next hb hb4
      have hrA1 := (hown2.rd.below hb14).more hb14.size
      have hrA2 := (hown3.rd.below hb24).more hb24.size
      by_cases hz : er = 0
      · subst hz
        have hs4 := OB.out _ _ ho4.out
        go_wp2_with fail
        refine (equal_any _ _ _ _ _ _ _ _ _ x3 x3 rfl rfl hla hla hrA1 (HA.out _ hbw4).1).mono ?_
        rintro e w' ⟨rfl, rfl⟩
        go_wp2_with fail
        refine (C4.out _ hbw4).mono ?_
        rintro e w5 ⟨A5, c5, rfl, hown6, _, hb5⟩
        have hbw5 := below_next hbw4 hb5
        go_wp2_with fail
        refine (equal_any _ _ _ _ _ _ _ _ _ sl sl rfl rfl hsa hsa (hrA2.below hb5) hown6.rd).mono ?_
        rintro e w' ⟨rfl, rfl⟩
        go_wp2_with fail
        refine (C5.out _ hbw5 _ _ _ _ hk4 hy4 hyl4 ((hown5.rd.below hb5).more hb5.size)).mono ?_
        rw [hs4]
        rintro e w6 ⟨A6, c6, rfl, hown7, _, hb6⟩
        have hbw6 := below_next hbw5 hb6
        go_wp2_with fail
        refine (equal_any _ _ _ _ _ _ _ _ _ x3 x3 rfl rfl hla hla hown7.rd (HA.out _ hbw6).1).mono ?_
        rintro e w' ⟨rfl, rfl⟩
        go_wp2_with fail
        refine (W6.out _ hbw6).mono ?_
        rintro e w7 ⟨rfl, hb7⟩
        go_wp2_with fail
        go_ret
        exact ⟨rfl, below_next hbw6 hb7⟩
      · have hz2 : ((er : Int) != 0) = true := by simp; omega
        have hz3 : ¬ ((er : Int) = 0) := by omega
        go_wp2_with fail
        refine (equal_any _ _ _ _ _ _ _ _ _ x3 x3 rfl rfl hla hla hrA1 (HA.out _ hbw4).1).mono ?_
        rintro e w' ⟨rfl, rfl⟩
        go_wp2_with fail
        refine (C4.out _ hbw4).mono ?_
        rintro e w5 ⟨A5, c5, rfl, hown6, _, hb5⟩
        have hbw5 := below_next hbw4 hb5
        go_wp2_with fail
        refine (equal_any _ _ _ _ _ _ _ _ _ sl sl rfl rfl hsa hsa (hrA2.below hb5) hown6.rd).mono ?_
        rintro e w' ⟨rfl, rfl⟩
        go_wp2_with fail
        refine (W6.out _ hbw5).mono ?_
        rintro e w7 ⟨rfl, hb7⟩
        go_wp2_with fail
        go_ret
        exact ⟨rfl, below_next hbw5 hb7⟩
end Go.Proofs.YtfbchegfkilhpaaDoor.Seal
