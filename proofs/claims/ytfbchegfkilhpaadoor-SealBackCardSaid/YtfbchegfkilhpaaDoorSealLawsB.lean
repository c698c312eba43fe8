/- The laws of layer 5, continued: opening, and no burst gets through. -/
import Derived.Test.YtfbchegfkilhpaaDoorRefOpen
import Derived.Test.YtfbchegfkilhpaaDoorSealLaws
namespace Go.Proofs.YtfbchegfkilhpaaDoor.Seal
open Go.RowKit Go.Proofs.YtfbchegfkilhpaaDoor.Mem Go.Proofs.YtfbchegfkilhpaaDoor.Crc

theorem le4_leN {s : Nat} (h : s < 4294967296) : leN (le4 s) = s := by
  simp only [le4, leN]
  omega
theorem residue {q : List Nat} (hq : AllB q) : more 0 (q ++ le4 (more 0 q)) = Sn 32 full ^^^ full := by
  rw [← more_append]
  have hs : more 0 q < 4294967296 := more_lt hq (by decide)
  generalize more 0 q = s at *
  unfold more
  rw [run_leN _ (le4_all s), le4_leN hs]
  have e : (s ^^^ full) ^^^ s = full := by rw [Nat.xor_comm s full, Nat.xor_assoc, Nat.xor_self, Nat.xor_zero]
  rw [e]
  rfl
theorem sealed_of_opened {l : List Nat} {k : Nat} {m : List Nat} (h : opened l = (k, m, 0)) : sealed k m = l := by
  unfold opened at h
  by_cases h5 : l.length < 5
  · rw [if_pos h5] at h; injection h with _ h; injection h with _ h; cases h
  · rw [if_neg h5] at h
    by_cases hq : le4 (more 0 (l.take (l.length - 4))) = l.drop (l.length - 4)
    · rw [if_pos hq] at h
      injection h with h1 h; injection h with h2 _
      rw [← h1, ← h2]
      exact (sealed_iff l (l.length - 4) (by omega) (by omega)).2 hq
    · rw [if_neg hq] at h; injection h with _ h; injection h with _ h; cases h
theorem opened_good (k : Nat) (l : List Nat) : opened (sealed k l) = (k, l, 0) := by
  have hlen := sealed_length k l
  unfold opened
  rw [if_neg (by omega), hlen, show l.length + 5 - 4 = l.length + 1 from by omega]
  have ht : (sealed k l).take (l.length + 1) = k :: l := by
    unfold sealed
    rw [List.take_append_of_le_length (by simp), List.take_of_length_le (by simp)]
  have hd : (sealed k l).drop (l.length + 1) = le4 (more 0 (k :: l)) := by
    unfold sealed
    rw [List.drop_append_of_le_length (by simp), List.drop_of_length_le (by simp), List.nil_append]
  rw [ht, hd, if_pos rfl]
  have h0 : (sealed k l).getD 0 0 = k := rfl
  have h1 : ((sealed k l).drop 1).take (l.length + 1 - 1) = l := by
    show (l ++ le4 (more 0 (k :: l))).take l.length = l
    rw [List.take_append_of_le_length (Nat.le_refl _), List.take_of_length_le (Nat.le_refl _)]
  rw [h0, h1]
theorem spoilt_same {l : List Nat} (hl : AllB l) {k m : Nat} (h : m % 2 ^ (8 * l.length - k) = 0) : spoilt l k m = l := by
  unfold spoilt
  rw [h, Nat.mul_zero, Nat.xor_zero, leB_leN l hl]
theorem opened_bad {k j m : Nat} {l : List Nat} (hk : k < 256) (hl : AllB l) (hm : m < 4294967296) (hj : j ≤ 8 * (sealed k l).length) (h : ¬ m % 2 ^ (8 * (sealed k l).length - j) = 0) : opened (spoilt (sealed k l) j m) = (0, [], 5) := by
  have hlen := sealed_length k l
  have hsl := spoilt_length (sealed k l) j m
  have hsa : AllB (spoilt (sealed k l) j m) := spoilt_all _ _ _
  have hne : ¬ more 0 (spoilt (sealed k l) j m) = more 0 (sealed k l) := fun e => h ((burst (sealed_all hk hl) hj hm 0).1 e)
  generalize spoilt (sealed k l) j m = x at *
  unfold opened
  rw [if_neg (by omega), if_neg]
  intro hq
  apply hne
  have e1 : more 0 (sealed k l) = Sn 32 full ^^^ full := residue (cons_all hk hl)
  have e2 := residue (all_take hsa (x.length - 4))
  rw [hq, List.take_append_drop] at e2
  rw [e1, e2]
theorem opened_all {l : List Nat} (hl : AllB l) {k : Nat} {m : List Nat} {er : Nat} (h : opened l = (k, m, er)) : k < 256 ∧ AllB m ∧ m.length ≤ l.length ∧ er < 6 := by
  unfold opened at h
  have hnil : AllB [] := fun x hx => by cases hx
  split at h
  · cases h; exact ⟨by decide, hnil, Nat.zero_le _, by decide⟩
  · split at h
    · cases h
      refine ⟨?_, fun z hz => hl z (List.mem_of_mem_drop (List.mem_of_mem_take hz)), by rw [List.length_take, List.length_drop]; omega, by decide⟩
      cases l with
      | nil => simp
      | cons a t => exact hl a (by simp)
    · cases h; exact ⟨by decide, hnil, Nat.zero_le _, by decide⟩
theorem opens_law (A : Option Addr) (c : Nat) (l : List Nat) (w : World) (hT : Tab w) (hA : Ok w A l) (hc : l.length ≤ c) (hsz : l.length ≤ 140737488351232) :
    Calls Tryd.prog 8 #[.slice A l.length c] w fun e w' => e = .returned (.bool true) ∧ Below w.heap.size w w' := by
  have HT := Lib.hid (fun (W : World) (h : Below w.heap.size w W) => hT.next h)
  have HA := Lib.hid (fun (W : World) (h : Below w.heap.size w W) => hA.next h)
  have C1 := Lib.hid (open_any A l.length c l w rfl hT hA.2.1 hA.1 hc (by omega))
  have C2 := Lib.hid (fun (W : World) (h : Below w.heap.size w W) => ropen_any A l.length c l W rfl hA.2.1 (HA.out _ h).1 hc (by omega))
  have W6 := Lib.hid (fun (W : World) (h : Below w.heap.size w W) => works_any W (HT.out _ h))
  have OA := Lib.hid (fun k m er (h : opened l = (k, m, er)) => opened_all hA.2.1 h)
  go_enter Tryd.func8, Tryd.ntmps8
  go_wp2_with fail
  refine C1.out.mono ?_
  rintro e w1 ⟨A1, c1, k, x, er, rfl, ho1, hown1, hb1⟩
  go_wp2_with fail
  refine (C2.out _ hb1).mono ?_
  rintro e w2 ⟨A2, c2, k2, x2, er2, rfl, ho2, hown2, hb2⟩
  have he := ho1.out.symm.trans ho2.out
  injection he with e1 he
  injection he with e2 e3
  subst e1 e2 e3
  have hb12 := below_next hb1 hb2
  obtain ⟨hk, hx, hxl, her⟩ := OA.out _ _ _ ho1.out
  go_wp2_with fail
  refine (equal_any _ _ _ _ _ _ _ _ _ x x rfl rfl hx hx (hown1.rd.below hb2) hown2.rd).mono ?_
  rintro e w' ⟨rfl, rfl⟩
  go_wp2_with fail
  refine (W6.out _ hb12).mono ?_
  rintro e w6 ⟨rfl, hb6⟩
  go_wp2_with fail
  go_ret
  exact ⟨rfl, below_next hb12 hb6⟩
theorem bursts_law (A : Option Addr) (c : Nat) (l : List Nat) (at_ : Int) (m : Nat) (w : World) (hT : Tab w) (hA : Ok w A l) (hm : m < 4294967296) (hsz : l.length ≤ 140737488351232) :
    Calls Tryd.prog 10 #[.slice A l.length c, .int .i64 at_, .int .u32 (m : Int)] w fun e w' => e = .returned (.bool true) ∧ Below w.heap.size w w' := by
  have HT := Lib.hid (fun (W : World) (h : Below w.heap.size w W) => hT.next h)
  have HA := Lib.hid (fun (W : World) (h : Below w.heap.size w W) => hA.next h)
  have hla := hA.2.1
  have hsa := sealed_all (k := 9) (by decide) hA.2.1
  have hsl := sealed_length 9 l
  have hgood := opened_good 9 l
  have hj := firstBit_lt (l := sealed 9 l) at_ (by omega)
  have hbad := opened_bad (k := 9) (j := firstBit (sealed 9 l) at_) (m := m) (by decide) hA.2.1 hm (by omega)
  have hsame := spoilt_same hsa (k := firstBit (sealed 9 l) at_) (m := m)
  have C1 := Lib.hid (seal_any 9 A l.length c l w rfl hT (by decide) hA.2.1 hA.1 (by omega))
  have W6 := Lib.hid (fun (W : World) (h : Below w.heap.size w W) => works_any W (HT.out _ h))
  generalize sealed 9 l = sl at *
  have hpl := spoilt_length sl (firstBit sl at_) m
  have hpa : AllB (spoilt sl (firstBit sl at_) m) := spoilt_all _ _ _
  have C2 := Lib.hid (fun (W : World) (A1 : Option Addr) (c1 : Nat) (hr : Rd W W.heap.size A1 (BB sl)) => spoil_any A1 sl.length c1 sl at_ m W rfl hr hsa hm (by omega) (by omega))
  have C3 := Lib.hid (fun (W : World) (A1 : Option Addr) (c1 : Nat) (hr : Rd W W.heap.size A1 (BB sl)) => rspoil_any A1 sl.length c1 sl at_ m W rfl hr hsa hm (by omega) (by omega))
  have HZ : Hid ((m % 2 ^ (8 * sl.length - firstBit sl at_) = 0 → opened (spoilt sl (firstBit sl at_) m) = (9, l, 0)) ∧ (¬ m % 2 ^ (8 * sl.length - firstBit sl at_) = 0 → opened (spoilt sl (firstBit sl at_) m) = (0, [], 5))) := by
    refine ⟨fun h => ?_, hbad⟩
    rw [hsame h, hgood]
  generalize spoilt sl (firstBit sl at_) m = sp at *
  have HSP := Lib.hid hpl
  have HSL := Lib.hid hsl
  have C4 := Lib.hid (fun (W : World) (h : Below w.heap.size w W) (A1 : Option Addr) (c1 : Nat) (hr : Rd W W.heap.size A1 (BB sp)) (hc1 : sp.length ≤ c1) => open_any A1 sp.length c1 sp W rfl (HT.out _ h) hpa hr hc1 (by omega))
  clear hsl hgood hj hbad hsame hpl
  go_enter Tryd.func10, Tryd.ntmps10
  go_wp2_with fail
  refine C1.out.mono ?_
  rintro e w1 ⟨A1, c1, rfl, hown1, hc1, hb1⟩
  go_wp2_with fail
  refine (C2.out _ _ _ hown1.rd).mono ?_
  rintro e w2 ⟨A2, c2, rfl, hown2, hc2, hb2⟩
  have hb12 := below_next hb1 hb2
  go_wp2_with fail
  have hown1' := hown1.rd.below hb2
  refine (C3.out _ _ _ (hown1'.more hb2.size)).mono ?_
  unfold Turns
  rintro e w3 ⟨A3, c3, n, rfl, hn, _, _, hb3⟩
  have hb13 := below_next hb12 hb3
  have HN := Lib.hid hn
  clear hn
  go_wp2_with fail
  refine (C4.out _ hb13 _ _ ((hown2.rd.below hb3).more hb3.size) hc2).mono ?_
  rintro e w4 ⟨A4, c4, k, y, er, rfl, ho, hown4, hb4⟩
  have hb14 := below_next hb13 hb4
  by_cases hz : n = 0
  · have hoo := ho.out.symm.trans (HZ.out.1 (HN.out.1 hz))
    injection hoo with e1 hoo
    injection hoo with e2 e3
    subst hz e1 e2 e3
    go_wp2_with fail
    refine (equal_any _ _ _ _ _ _ _ _ _ y y rfl rfl hla hla hown4.rd (HA.out _ hb14).1).mono ?_
    rintro e w' ⟨rfl, rfl⟩
    go_wp2_with fail
    refine (W6.out _ hb14).mono ?_
    rintro e w6 ⟨rfl, hb6⟩
    go_wp2_with fail
    go_ret
    exact ⟨rfl, below_next hb14 hb6⟩
  · have hoo := ho.out.symm.trans (HZ.out.2 (fun h => hz (HN.out.2 h)))
    injection hoo with e1 hoo
    injection hoo with e2 e3
    subst e1 e2 e3
    have hz2 : ((n : Int) == 0) = false := by simp; omega
    have hz3 : ¬ ((n : Int) = 0) := by omega
    go_wp2_with fail
    refine (W6.out _ hb14).mono ?_
    rintro e w6 ⟨rfl, hb6⟩
    go_wp2_with fail
    go_ret
    exact ⟨rfl, below_next hb14 hb6⟩
end Go.Proofs.YtfbchegfkilhpaaDoor.Seal
