/- Layer 36 (net): the example; equal. -/
import Derived.Test.YtpckfnafcmifpaaNetSpoil
import Derived.Lib.SlBytesConst
namespace Go.Proofs.Ytpckfnafcmifpaa.Net
open Go.RowKit Go.Proofs.Ytpckfnafcmifpaa.Mem

theorem equal36_any (w : World) (B B' : Nat) (A A' : Option Addr) (n m c c' : Nat) (a b : List Nat) (hn : n = a.length) (hm : m = b.length) (ha : AllB a) (hb : AllB b) (h1 : Rd w B A (BB a)) (h2 : Rd w B' A' (BB b)) :
    Calls Try.prog 22 #[.slice A n c, .slice A' m c'] w fun e w' => e = .returned (.bool (decide (a = b))) ∧ ∃ q, w' = w.drewN q := by
  subst hn hm
  have t1 := run_str w B A a.length c a rfl h1
  have t2 := run_str w B' A' b.length c' b rfl h2
  have hs := str_eq ha hb
  generalize decide (a = b) = d at *
  go_enter Try.func22, Try.ntmps22
  go_wp2
  go_ret
  exact ⟨rfl, 0, rfl⟩
theorem send_lit (S : Nat → Prop) (g : Nat) (xs : List OneM) (tt : Int) (a : Nat) (w : World) (h : Nst w S g xs) (hl : xs.length < 512) (ha : a < 256) (ht : -9223372036854775808 ≤ tt ∧ tt ≤ 9223372036854775807) :
    Calls Try.prog 23 #[.pointer (some ⟨g, 0, none⟩), .int .i64 tt, .slice (some ⟨w.heap.size, 0, none⟩) 1 1] (w.alloc (.cells #[.int .u8 (a : Int)] 5 (1, 2))) fun en w' => en = .returned (.int .i64 0) ∧ ∃ S' A' c', Nst w' S' g (xs ++ [⟨tt, A', [a], c', false⟩]) ∧ Goes S w S' w' := by
  have hB : Below w.heap.size w (w.alloc (.cells #[.int .u8 (a : Int)] 5 (1, 2))) := (Below.refl _ _).alloc (Nat.le_refl _) _
  refine (send_yes S g xs tt _ 1 1 [a] _ (h.next hB) hl rfl ((Rd.marked w [.int .u8 (a : Int)] 5 (1, 2)).more (by simp)) ⟨?_, by simp, ht⟩).mono ?_
  · intro x hx
    rcases List.mem_cons.1 hx with rfl | hx
    · exact ha
    · cases hx
  · rintro e w' ⟨rfl, S', A', c', h1, h2⟩
    exact ⟨rfl, S', A', c', h1, Goes.trans (S1 := S) ⟨Upd.of_below hB, fun _ e => .inl e⟩ h2⟩
theorem at34 : (atI 3 4).toNat = 1 := by decide
theorem at21 : (atI 2 1).toNat = 1 := by decide
theorem str98 : strB [98] = ⟨#[98]⟩ := rfl
theorem str99 : strB [99] = ⟨#[99]⟩ := rfl
set_option maxRecDepth 100000 in
set_option maxHeartbeats 4000000 in
theorem nworks_any (w : World) : Calls Try.prog 18 #[] w fun e w' => e = .returned (.bool true) ∧ Below w.heap.size w w' := by
  have kc := fun (w : World) (C : Array Value) (n c : Nat) => Lib.run_convert_bytes_const (P := Try.prog) w 54 5 C n c Try.underlying54 Try.underlying5
  have CN := kept (new_any w)
  go_enter Try.func18, Try.ntmps18
  go_wp2_with fail
  refine CN.out.mono ?_
  rintro en w1 ⟨rfl, hP, hb⟩
  have HB1 := kept hb
  have HG1 : Kept (∀ k, k = w.heap.size → w.heap.size ≤ k) := ⟨fun k h => by omega⟩
  have CA := kept (send_lit _ _ [] 1 97 w1 hP (by simp) (by decide) (by decide))
  clear hb hP CN
  go_wp2_with fail
  refine CA.out.mono ?_
  rintro en w2 ⟨rfl, S2, A2, c2, hP, hG⟩
  have HB2 := kept (HB1.out.trans (hG.below HB1.out.size HG1.out))
  have HG2 := kept (hG.base HB1.out.size HG1.out)
  have CA2 := kept (send_lit _ _ _ 2 98 w2 hP (by simp) (by decide) (by decide))
  clear hP hG CA
  go_wp2_with fail
  refine CA2.out.mono ?_
  rintro en w3 ⟨rfl, S3, A3, c3, hP, hG⟩
  have HB3 := kept (HB2.out.trans (hG.below HB2.out.size HG2.out))
  have HG3 := kept (hG.base HB2.out.size HG2.out)
  have CA3 := kept (send_lit _ _ _ 3 99 w3 hP (by simp) (by decide) (by decide))
  clear hP hG CA2
  go_wp2_with fail
  refine CA3.out.mono ?_
  rintro en w4 ⟨rfl, S4, A4, c4, hP, hG⟩
  have HB4 := kept (HB3.out.trans (hG.below HB3.out.size HG3.out))
  have HG4 := kept (hG.base HB3.out.size HG3.out)
  have hP : Nst w4 S4 w.heap.size [⟨1, A2, [97], c2, false⟩, ⟨2, A3, [98], c3, false⟩, ⟨3, A4, [99], c4, false⟩] := hP
  have CT := take_at _ _ _ 4 ⟨2, A3, [98], c3, false⟩ w4 hP (by show ([_, _, _] : List OneM)[(atI 3 4).toNat]? = _; rw [at34]; rfl)
  rw [show (atI [(⟨1, A2, [97], c2, false⟩ : OneM), ⟨2, A3, [98], c3, false⟩, ⟨3, A4, [99], c4, false⟩].length 4).toNat = 1 from at34] at CT
  unfold TakesAt at CT
  simp only [OneM.msg, List.length_cons, List.length_nil, Nat.zero_add] at CT
  have CT := kept CT
  have HP4 := kept hP
  clear hP hG CA3 kc
  go_wp2_with fail
  refine CT.out.mono ?_
  rintro en w5 ⟨A5, c5, rfl, ho5, -, hP, hU⟩
  have HB5 := kept (HB4.out.trans (hU.below HB4.out.size (fun i _ e => HG4.out i e)))
  have hP : Nst w5 S4 w.heap.size [⟨1, A2, [97], c2, false⟩, ⟨3, A4, [99], c4, false⟩] := hP
  have CL := look_at _ _ _ 1 ⟨3, A4, [99], c4, false⟩ w5 hP (by show ([_, _] : List OneM)[(atI 2 1).toNat]? = _; rw [at21]; rfl)
  unfold LooksAt at CL
  simp only [OneM.msg, List.length_cons, List.length_nil, Nat.zero_add] at CL
  have CL := kept CL
  have CLN := kept (fun W (hb : Below w5.heap.size w5 W) => len_any _ 2 W (hP.next hb).len)
  have HO5 := kept ho5.rd
  clear hP hU ho5 CT HP4
  go_wp2_with fail
  refine CL.out.mono ?_
  rintro en w6 ⟨A6, c6, rfl, ho6, -, hb6⟩
  have HB6 := kept (HB5.out.trans (hb6.mono HB5.out.size))
  have t1 := run_str w6 _ A5 1 c5 [98] rfl (HO5.out.next hb6)
  have t2 := run_str w6 _ A6 1 c6 [99] rfl ho6.rd
  rw [str98] at t1
  rw [str99] at t2
  have CLN2 := kept (CLN.out w6 hb6)
  clear ho6 hb6 CL CLN
  go_wp2_with fail
  refine CLN2.out.mono ?_
  rintro en w7 ⟨rfl, hw7⟩
  subst hw7
  go_wp2
  go_ret
  exact ⟨rfl, HB6.out⟩
end Go.Proofs.Ytpckfnafcmifpaa.Net
