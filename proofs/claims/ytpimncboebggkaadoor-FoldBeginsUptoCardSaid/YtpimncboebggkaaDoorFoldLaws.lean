/- The laws of layer 43: FoldSays. -/
import Derived.Test.YtpimncboebggkaaDoorFoldBegin
import Derived.Test.YtpimncboebggkaaDoorTextsEq
namespace Go.Proofs.YtpimncboebggkaaDoor.Fold
open Go.RowKit Go.Proofs.YtpimncboebggkaaDoor.Mem Go.Proofs.YtpimncboebggkaaDoor.Card Go.Proofs.YtpimncboebggkaaDoor.Laid
open Go.Lib hiding Kept

def exS : ByteArray := ⟨#[32, 32, 65, 110, 110, 45, 77, 97, 114, 105, 101, 32, 79, 39, 78, 101, 105, 108]⟩
def exF : ByteArray := ⟨#[97, 110, 110, 32, 109, 97, 114, 105, 101, 32, 111, 32, 110, 101, 105, 108]⟩
def exA : ByteArray := ⟨#[109, 97, 114, 105, 101, 32, 111, 32, 110]⟩
def exB : ByteArray := ⟨#[97, 114, 105, 101]⟩
theorem exs_fold : foldB exS = exF := by
  show bOf (fold exS.data.toList) = exF
  have : fold exS.data.toList = exF.data.toList := by decide +kernel
  rw [this, bOf_data]
theorem exs_a : beginsB exS exA = true := by decide +kernel
theorem exs_b : beginsB exS exB = false := by decide +kernel
theorem works_any (w : World) (hm : ML w) : Calls Tryd.prog 11 #[] w fun e w' => e = .returned (.bool true) ∧ Below w.heap.size w w' := by
  have C1 := fold_any exS w (by decide) hm
  rw [exs_fold] at C1
  have C2 := fun (W : World) (hb : Below w.heap.size w W) => begins_any exS exA W (by decide) (by decide) (hm.next hb)
  have C3 := fun (W : World) (hb : Below w.heap.size w W) => begins_any exS exB W (by decide) (by decide) (hm.next hb)
  rw [exs_a] at C2
  rw [exs_b] at C3
  unfold exS exF at C1
  unfold exS exA at C2
  unfold exS exB at C3
  have K1 := kept C1
  have K2 := kept C2
  have K3 := kept C3
  clear C1 C2 C3
  go_enter Tryd.func11, Tryd.ntmps11
  go_wp2_with fail
  refine K1.out.mono ?_
  rintro e w1 ⟨rfl, hb1⟩
  go_wp2_with fail
  refine (K2.out _ hb1).mono ?_
  rintro e w2 ⟨rfl, hb2⟩
  have hb2 := below_chain hb1 hb2
  go_wp2_with fail
  refine (K3.out _ hb2).mono ?_
  rintro e w3 ⟨rfl, hb3⟩
  have hb3 := below_chain hb2 hb3
  go_wp2_with fail
  go_ret
  exact ⟨rfl, hb3⟩
theorem says_law (a b : ByteArray) (w : World) (hm : ML w) (ha : a.size ≤ 9223372036854775807) (hb : b.size ≤ 9223372036854775807) : Calls Tryd.prog 6 #[.string a, .string b] w fun e w' => e = .returned (.bool true) ∧ Below w.heap.size w w' := by
  have W0 := kept (fun (W : World) (h : Below w.heap.size w W) => works_any W (hm.next h))
  by_cases h1 : a.size ≤ 500
  · by_cases h2 : b.size ≤ 500
    · have K1 := kept (fun (W : World) (h : Below w.heap.size w W) => fold_any a W (by omega) (hm.next h))
      have K2 := kept (fun (W : World) => rfold_any a W (by omega))
      have K3 := kept (fun (W : World) (h : Below w.heap.size w W) => words_any a W (by omega) (hm.next h))
      have K4 := kept (fun (W : World) => rwords_any a W (by omega))
      have K5 := kept (fun (W : World) (h : Below w.heap.size w W) => cmp_any a b W (by omega) (by omega) (hm.next h))
      have K6 := kept (fun (W : World) => rcmp_any a b W (by omega) (by omega))
      have K7 := kept (fun (W : World) (h : Below w.heap.size w W) => begins_any a b W (by omega) (by omega) (hm.next h))
      have K8 := kept (fun (W : World) => rbegins_any a b W (by omega) (by omega))
      have hwl := wordsB_le a
      have h1' : ¬ 500 < a.size := by omega
      have h2' : ¬ 500 < b.size := by omega
      generalize foldB a = fa at *
      generalize cmpF a b = cf at *
      generalize beginsB a b = bf at *
      go_enter Tryd.func6, Tryd.ntmps6
      go_wp2_with fail
      refine (K1.out _ (Below.refl _ _)).mono ?_
      rintro e w1 ⟨rfl, hb1⟩
      go_wp2_with fail
      refine (K2.out _).mono ?_
      rintro e w2 ⟨rfl, hb2⟩
      have hb2 := below_chain hb1 hb2
      go_wp2_with fail
      refine (K3.out _ hb2).mono ?_
      rintro e w3 ⟨A1, c1, rfl, ho1, hc1, hb3⟩
      have hb3 := below_chain hb2 hb3
      have hr1 := kept (strE_rd.1 ho1.rd)
      clear ho1
      go_wp2_with fail
      refine (K4.out _).mono ?_
      rintro e w4 ⟨A2, c2, rfl, ho2, hc2, hb4⟩
      have hr3 := kept (hr1.out.next hb4)
      have hr2 := kept (strE_rd.1 ho2.rd)
      have hb4 := below_chain hb3 hb4
      have CT := kept (texts_any _ _ A1 A2 _ _ c1 c2 (wordsB a) (wordsB a) w4 rfl rfl hr3.out hr2.out (by omega))
      rw [decide_eq_true rfl] at CT
      clear ho2 hr1 hr2 hr3
      generalize (wordsB a).length = n at *
      go_wp2_with fail
      refine CT.out.mono ?_
      rintro e w5 ⟨rfl, q, rfl⟩
      have hb5 := below_chain hb4 (below_draw _ _ q)
      clear CT
      go_wp2_with fail
      refine (K5.out _ hb5).mono ?_
      rintro e w6 ⟨rfl, hb6⟩
      have hb6 := below_chain hb5 hb6
      go_wp2_with fail
      refine (K6.out _).mono ?_
      rintro e w7 ⟨rfl, hb7⟩
      have hb7 := below_chain hb6 hb7
      go_wp2_with fail
      refine (K7.out _ hb7).mono ?_
      rintro e w8 ⟨rfl, hb8⟩
      have hb8 := below_chain hb7 hb8
      go_wp2_with fail
      refine (K8.out _).mono ?_
      rintro e w9 ⟨rfl, hb9⟩
      have hb9 := below_chain hb8 hb9
      go_wp2_with fail
      refine (W0.out _ hb9).mono ?_
      rintro e w10 ⟨rfl, hb10⟩
      have hb10 := below_chain hb9 hb10
      go_wp2_with fail
      go_ret
      exact ⟨rfl, hb10⟩
    · have h1' : ¬ 500 < a.size := by omega
      have h2' : 500 < b.size := by omega
      go_enter Tryd.func6, Tryd.ntmps6
      go_wp2_with fail
      refine (W0.out _ (Below.refl _ _)).mono ?_
      rintro e w10 ⟨rfl, hb10⟩
      go_wp2_with fail
      go_ret
      exact ⟨rfl, hb10⟩
  · have h1' : 500 < a.size := by omega
    go_enter Tryd.func6, Tryd.ntmps6
    go_wp2_with fail
    refine (W0.out _ (Below.refl _ _)).mono ?_
    rintro e w10 ⟨rfl, hb10⟩
    go_wp2_with fail
    go_ret
    exact ⟨rfl, hb10⟩
end Go.Proofs.YtpimncboebggkaaDoor.Fold
