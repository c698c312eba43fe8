/- Layer 36 (net): the law NetSpoils. -/
import Derived.Test.YtpckfnafcmifpaaNetWorks
import Derived.Test.YtpckfnafcmifpaaSealLawsB
namespace Go.Proofs.Ytpckfnafcmifpaa.Net
open Go.RowKit Go.Proofs.Ytpckfnafcmifpaa.Mem

/-- bytes apart from a ground -/
def Ap (w : World) (S : Nat → Prop) (A : Option Addr) (xs : List Value) : Prop := Rd w w.heap.size A xs ∧ ∀ a, A = some a → xs ≠ [] → ¬ S a.block
theorem Ap.goes {w w' : World} {S S' : Nat → Prop} {A : Option Addr} {xs : List Value} (h : Ap w S A xs) (hg : Goes S w S' w') : Ap w' S' A xs := by
  refine ⟨(h.1.updN hg.1 (Nat.le_refl _) h.2).more hg.1.size, fun a ha hne e => ?_⟩
  obtain ⟨b, o, e1, hb, _⟩ := h.1 hne
  rw [ha] at e1
  obtain rfl := Option.some.inj e1
  rcases hg.2 _ e with h1 | h1
  · exact h.2 _ ha hne h1
  · exact absurd hb (Nat.not_lt.2 h1)
theorem Ap.next {w w' : World} {S : Nat → Prop} {A : Option Addr} {xs : List Value} (h : Ap w S A xs) (hb : Below w.heap.size w w') : Ap w' S A xs := ⟨h.1.next hb, h.2⟩
theorem Ap.new {w w' : World} {S : Nat → Prop} {A : Option Addr} {l : List Nat} {n c : Nat} (h : Own w' w.heap.size 5 (.slice A n c) (BB l)) (hS : ∀ k, S k → k < w.heap.size) : Ap w' S A (BB l) :=
  ⟨h.rd, fun a ha _ e => absurd (hS _ e) (Nat.not_lt.2 (h.lt a.block (by rw [ha]; rfl)).1)⟩
theorem at10 : (atI 1 0).toNat = 0 := by decide
set_option maxRecDepth 100000 in
set_option maxHeartbeats 4000000 in
theorem spoils_law (A : Option Addr) (c : Nat) (l : List Nat) (at_ : Int) (m : Nat) (w : World) (hl : AllB l) (hr : Rd w w.heap.size A (BB l)) (hm : m < 4294967296) (hsz : l.length ≤ 140737488351232) :
    Calls Try.prog 5 #[.slice A l.length c, .int .i64 at_, .int .u32 (m : Int)] w fun e w' => e = .returned (.bool true) ∧ Below w.heap.size w w' := by
  have CW := kept (fun W => nworks_any W)
  by_cases hbig : 1000 < l.length
  · clear hr hl
    generalize l.length = N at *
    go_enter Try.func5, Try.ntmps5
    go_wp2_with fail
    refine (CW.out _).mono ?_
    rintro en w2 ⟨rfl, hb2⟩
    go_wp2
    go_ret
    exact ⟨rfl, hb2⟩
  have h1000 : l.length ≤ 1000 := by omega
  have hsa := Seal.sealed_all (k := 7) (by decide) hl
  have hsl := Seal.sealed_length 7 l
  have hgood := Seal.opened_good 7 l
  have hj := Seal.firstBit_lt (l := Seal.sealed 7 l) at_ (by omega)
  have hbad := Seal.opened_bad (k := 7) (j := Seal.firstBit (Seal.sealed 7 l) at_) (m := m) (by decide) hl hm (by omega)
  have hsame := Seal.spoilt_same hsa (k := Seal.firstBit (Seal.sealed 7 l) at_) (m := m)
  have CN := kept (new_any w)
  have CS := kept (fun W (hb : Below w.heap.size w W) => Seal.rseal_any 7 A l.length c l W rfl (by decide) hl (hr.next hb) (by omega))
  have hspB : spoilB (Seal.sealed 7 l) at_ m = Crc.spoilt (Seal.sealed 7 l) (Seal.firstBit (Seal.sealed 7 l) at_) m := by unfold spoilB; rw [if_neg (by omega)]
  generalize Seal.sealed 7 l = sl at *
  have hpl := Crc.spoilt_length sl (Seal.firstBit sl at_) m
  have hpa : AllB (Crc.spoilt sl (Seal.firstBit sl at_) m) := Crc.spoilt_all _ _ _
  have CRS := kept (fun (W : World) (A1 : Option Addr) (c1 : Nat) (hr : Rd W W.heap.size A1 (BB sl)) => Seal.rspoil_any A1 sl.length c1 sl at_ m W rfl hr hsa hm (by omega) (by omega))
  unfold Crc.Turns at CRS
  have HZ : Kept ((m % 2 ^ (8 * sl.length - Seal.firstBit sl at_) = 0 → Seal.opened (Crc.spoilt sl (Seal.firstBit sl at_) m) = (7, l, 0)) ∧ (¬ m % 2 ^ (8 * sl.length - Seal.firstBit sl at_) = 0 → Seal.opened (Crc.spoilt sl (Seal.firstBit sl at_) m) = (0, [], 5))) := by
    refine ⟨⟨fun h => ?_, hbad⟩⟩
    rw [hsame h, hgood]
  generalize m % 2 ^ (8 * sl.length - Seal.firstBit sl at_) = mz at *
  have HSPB := kept hspB
  generalize Crc.spoilt sl (Seal.firstBit sl at_) m = sp at *
  have CO := kept (fun (W : World) (A1 : Option Addr) (c1 : Nat) (hr : Rd W W.heap.size A1 (BB sp)) (hc1 : sp.length ≤ c1) => Seal.ropen_any A1 sp.length c1 sp W rfl hpa hr hc1 (by omega))
  have hslB : sl.length ≤ 140737488351232 := by omega
  have hslN : 0 < sl.length := by omega
  have HSA := kept hsa
  have HPA := kept hpa
  have hslm : sl.length ≤ 2000 := by omega
  clear hsl hgood hj hbad hsame hspB hpl hr hsa
  go_enter Try.func5, Try.ntmps5
  go_wp2_with fail
  refine CN.out.mono ?_
  rintro en w1 ⟨rfl, hN, hb⟩
  have CS1 := kept (CS.out _ hb)
  have HB1 := kept hb
  have HN1 := kept hN
  clear hb hN CN CS
  go_wp2_with fail
  refine CS1.out.mono ?_
  rintro en w2 ⟨A2, c2, rfl, ho, hc2, hb⟩
  have HA2 := kept (Ap.new ho HN1.out.2.1)
  have HB2 := kept (HB1.out.trans (hb.mono HB1.out.size))
  have CS2 := kept (send_yes _ _ [] 1 A2 sl.length c2 sl w2 (HN1.out.next hb) (by simp) rfl ho.rd ⟨HSA.out, hslB, (show (-9223372036854775808 : Int) ≤ 1 by decide), (show (1 : Int) ≤ 9223372036854775807 by decide)⟩)
  clear ho hb CS1
  go_wp2_with fail
  refine CS2.out.mono ?_
  rintro en w3 ⟨rfl, S3, A3, c3, hN, hG⟩
  have HA3 := kept (HA2.out.goes hG)
  have HB3 := kept (HB2.out.trans (hG.below HB2.out.size (fun i h => by omega)))
  have HG3 := kept (hG.base HB2.out.size (fun i (h : i = w.heap.size) => by omega))
  have hN : Nst w3 S3 w.heap.size [⟨1, A3, sl, c3, false⟩] := hN
  have CS3 := twice_at _ _ _ 0 ⟨1, A3, sl, c3, false⟩ w3 hN (by show ([_] : List OneM)[(atI 1 0).toNat]? = _; rw [at10]; rfl)
  rw [if_neg (by simp)] at CS3
  simp only [List.length_cons, List.length_nil, show ¬ (512 ≤ 0 + 1) from by decide, if_false] at CS3
  have CS3 := kept CS3
  clear hN hG CS2 HA2
  go_wp2_with fail
  refine CS3.out.mono ?_
  rintro en w4 ⟨rfl, S4, A4, c4, hN, hG⟩
  have HA4 := kept (HA3.out.goes hG)
  have HB4 := kept (HB3.out.trans (hG.below HB3.out.size HG3.out))
  have HG4 := kept (hG.base HB3.out.size HG3.out)
  have hN : Nst w4 S4 w.heap.size [⟨1, A3, sl, c3, false⟩, ⟨1, A4, sl, c4, false⟩] := hN
  have CS4 := spoil_at _ _ _ 1 at_ m ⟨1, A4, sl, c4, false⟩ w4 hN hm (by show ([_, _] : List OneM)[(atI 2 1).toNat]? = _; rw [at21]; rfl) rfl
  rw [show (atI [(⟨1, A3, sl, c3, false⟩ : OneM), ⟨1, A4, sl, c4, false⟩].length 1).toNat = 1 from at21] at CS4
  simp only [HSPB.out] at CS4
  have CS4 := kept CS4
  clear hN hG CS3 HA3
  go_wp2_with fail
  refine CS4.out.mono ?_
  rintro en w5 ⟨rfl, S5, A5, c5, hN, hG⟩
  have HA5 := kept (HA4.out.goes hG)
  have HB5 := kept (HB4.out.trans (hG.below HB4.out.size HG4.out))
  have HG5 := kept (hG.base HB4.out.size HG4.out)
  generalize decide (sl ≠ sp) = bd at hN
  have hN : Nst w5 S5 w.heap.size [⟨1, A3, sl, c3, false⟩, ⟨1, A5, sp, c5, bd⟩] := hN
  have CS5 := take_at _ _ _ 1 ⟨1, A5, sp, c5, bd⟩ w5 hN (by show ([_, _] : List OneM)[(atI 2 1).toNat]? = _; rw [at21]; rfl)
  rw [show (atI [(⟨1, A3, sl, c3, false⟩ : OneM), ⟨1, A5, sp, c5, bd⟩].length 1).toNat = 1 from at21] at CS5
  unfold TakesAt at CS5
  dsimp only [OneM.msg] at CS5
  have CS5 := kept CS5
  have HU5 := kept hN.2.1
  clear hN hG CS4 HA4
  go_wp2_with fail
  refine CS5.out.mono ?_
  rintro en w6 ⟨A6, c6, rfl, ho6, hc6, hN, hU⟩
  have HA6 := kept (HA5.out.goes ⟨hU, fun _ e => .inl e⟩)
  have HX6 := kept (Ap.new ho6 HU5.out)
  have HB6 := kept (HB5.out.trans (hU.below HB5.out.size (fun i _ e => HG5.out i e)))
  have hN : Nst w6 S5 w.heap.size [⟨1, A3, sl, c3, false⟩] := hN
  have CS6 := take_at _ _ _ 0 ⟨1, A3, sl, c3, false⟩ w6 hN (by show ([_] : List OneM)[(atI 1 0).toNat]? = _; rw [at10]; rfl)
  unfold TakesAt at CS6
  dsimp only [OneM.msg] at CS6
  have CS6 := kept CS6
  clear hN hU CS5 HA5 ho6
  go_wp2_with fail
  refine CS6.out.mono ?_
  rintro en w7 ⟨A7, c7, rfl, ho7, hc7, -, hU⟩
  have HA7 := kept (HA6.out.goes ⟨hU, fun _ e => .inl e⟩)
  have HX7 := kept (HX6.out.goes ⟨hU, fun _ e => .inl e⟩)
  have HY7 := kept ho7.rd
  have HB7 := kept (HB6.out.trans (hU.below HB6.out.size (fun i _ e => HG5.out i e)))
  have CS7 := kept (CRS.out w7 A2 c2 HA7.out.1)
  clear hU CS6 HA6 HX6 ho7 CRS
  go_wp2_with fail
  refine CS7.out.mono ?_
  rintro en w8 ⟨A8, c8, n8, rfl, hn8, -, -, hb⟩
  have HB8 := kept (HB7.out.trans (hb.mono HB7.out.size))
  have CS8 := kept (CO.out w8 A6 c6 (HX7.out.1.next hb) hc6)
  have HA8 := kept (HA7.out.1.next hb)
  have HY8 := kept (HY7.out.next hb)
  unfold Seal.Opened at CS8
  have HN8 := kept hn8
  clear hb CS7 HX7 HY7 HA7 CO hn8
  go_wp2_with fail
  refine CS8.out.mono ?_
  rintro en w9 ⟨A9, c9, k9, m9, er9, rfl, hop, -, hb⟩
  have HB9 := kept (HB8.out.trans (hb.mono HB8.out.size))
  have CE := equal36_any w9 _ _ A7 A2 sl.length sl.length c7 c2 sl sl rfl rfl HSA.out HSA.out (HY8.out.next hb) (HA8.out.next hb)
  rw [decide_eq_true rfl] at CE
  have CE := kept CE
  have hfin : ((er9 : Int) == 0) = ((n8 : Int) == 0) := by
    by_cases hz : mz = 0
    · have h1 := HZ.out.1 hz
      rw [hop.out] at h1
      injection h1 with _ h1
      injection h1 with _ h1
      rw [h1, HN8.out.2 hz]
    · have h1 := HZ.out.2 hz
      rw [hop.out] at h1
      injection h1 with _ h1
      injection h1 with _ h1
      have h2 : ¬ n8 = 0 := fun e => hz (HN8.out.1 e)
      rw [h1]
      have h3 : ((n8 : Int) == 0) = false := by simpa using h2
      rw [h3]; rfl
  clear hb CS8 HY8 HA8 hop HZ
  go_wp2_with fail
  refine CE.out.mono ?_
  rintro en w10 ⟨rfl, q, rfl⟩
  go_wp2_with fail
  refine (CW.out _).mono ?_
  rintro en w11 ⟨rfl, hb⟩
  have HB11 := kept (bnx (HB9.out.trans (below_draw _ _ q)) hb)
  clear hb
  go_wp2
  go_ret
  exact ⟨rfl, HB11.out⟩
end Go.Proofs.Ytpckfnafcmifpaa.Net
