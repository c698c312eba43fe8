/- Layer 41 (past): the law PastNil. -/
import Derived.Test.YtnmcclkpgbdenaaPastNone
import Derived.Test.YtnmcclkpgbdenaaPastFew
import Derived.Test.YtnmcclkpgbdenaaPastWorks
import Derived.Test.YtnmcclkpgbdenaaMaskEq
import Derived.Deep.DeepCutAuto
namespace Go.Proofs.Ytnmcclkpgbdenaa.Past
open Go.RowKit Go.Proofs.Ytnmcclkpgbdenaa.Mem Go.Proofs.Ytnmcclkpgbdenaa.Mask

theorem saw_in (S : Nat → Prop) (g : Nat) (fs : List FactM) (i : Nat) (f : FactM) (w : World) (h : Pst w S g fs) (hf : fs[i]? = some f) :
    Calls Try.prog 33 #[.pointer (some ⟨g, 0, none⟩), .int .i64 (i : Int)] w (GivesW w (joinN f.m [])) := by
  have hi : i < fs.length := (List.getElem?_eq_some_iff.1 hf).1
  have CN : Kept (Calls Try.prog 60 #[.pointer (some ⟨g, 0, none⟩), .int .i64 (i : Int)] w fun e w' => e = .returned (.bool true) ∧ w = w') := ⟨by
    have := is_any _ fs.length (i : Int) w h.len
    rwa [decide_eq_true ⟨by omega, by omega⟩] at this⟩
  obtain ⟨X, c, bl, o, rfl, hg, hbl, hgl, ⟨-, -, -, -, -, -, -, a7⟩, hak⟩ := h.spot hf
  have h1024 := h.2.2.1
  have CJ := kept (join_any f.A none f.m.length 0 f.c 0 f.m [] w rfl rfl hak.2.2.1 (fun x hx => by cases hx) hak.2.1.rd Rd.nil (by have := hak.2.2.2; omega) (by decide))
  clear h hf hak
  have hi2 : (i : Int) < (fs.length : Int) := by omega
  have hi3 : (0 : Int) ≤ (i : Int) := by omega
  go_enter Try.func33, Try.ntmps33
  go_wp2_with fail
  refine CN.out.mono ?_
  rintro e w' ⟨rfl, rfl⟩
  go_wp2_with fail
  refine CJ.out.mono ?_
  rintro e w1 ⟨A1, c1, rfl, hown, hc, hb⟩
  go_wp2_with fail
  go_ret
  exact ⟨A1, c1, rfl, hown, hc, hb⟩
def FactM.val (f : FactM) : Value := .agg #[.int .u16 (f.e.dev : Int), .int .u64 (f.e.n : Int), .int .u8 (f.e.kind : Int), .int .u64 (f.e.cid : Int), .int .u8 (f.e.field : Int), .string f.e.text, .slice f.e.kA f.e.kn f.e.kc, .slice f.A f.m.length f.c]
/-- a store that meets nothing of a past -/
theorem Pst.store {w : World} {S : Nat → Prop} {g : Nat} {fs : List FactM} (h : Pst w S g fs) {p : Addr} (hp : ¬ S p.block) (hr : ∀ f ∈ fs, ∀ x, f.A = some x → x.block ≠ p.block) (v : Value) : Pst (w.setCell p v) S g fs := by
  obtain ⟨h1, h2, h3, h4, X, c, h5, h6, h7⟩ := h
  refine ⟨h1, fun k hk => by have := h2 k hk; simpa [World.setCell] using this, h3, fun f hf => ?_, X, c, h5.other (p := p) (fun e => hp (by rw [e]; exact h1)) v, OwnK.other h6 (?_) v, h7⟩
  · obtain ⟨a, b, d⟩ := h4 f hf
    refine ⟨a, OwnK.other b ?_ v, d⟩
    cases hA : f.A with
    | none => exact .inl rfl
    | some x => exact .inr fun e => hr f hf x hA (Option.some.inj e)
  · cases hX : X with
    | none => exact .inl rfl
    | some x => exact .inr fun e => hp (by rw [← show x.block = p.block from Option.some.inj e]; exact (h7 x hX).1)
def wKill (sb : Nat) : EvM := ⟨0, 0, 2, 5, 0, ⟨#[]⟩, some ⟨sb, 0, none⟩, 1, 1⟩
theorem nil_two (A B : Option Addr) (a b sb : Nat) : (addF (addF [] wEdit [] A a) (wKill sb) [3] B b) = [⟨⟨0, 0, 1, 5, 1, ⟨#[]⟩, none, 0, 0⟩, A, [], a⟩, ⟨⟨0, 0, 2, 5, 0, ⟨#[]⟩, none, 0, 0⟩, B, [1], b⟩] := by
  have h1 : thereM 0 [] = [] := rfl
  have h2 : thereM 1 [3] = [1] := by decide +kernel
  unfold addF
  show [] ++ [_] ++ [_] = _
  rw [show (([] : List FactM) ++ [(⟨⟨wEdit.dev, wEdit.n, wEdit.kind, wEdit.cid, wEdit.field, wEdit.text, none, 0, 0⟩, A, thereM ([] : List FactM).length [], a⟩ : FactM)]).length = 1 from rfl, h2]
  rfl
theorem outs_10 (A B : Option Addr) (a b : Nat) : outsM [⟨⟨0, 0, 1, 5, 1, ⟨#[]⟩, none, 0, 0⟩, A, [], a⟩, ⟨⟨0, 0, 2, 5, 0, ⟨#[]⟩, none, 0, 0⟩, B, [1], b⟩] 1 0 = true := by kernel_rfl
theorem join_1 : joinN [1] [] = [1] := by decide +kernel
set_option maxRecDepth 100000 in
set_option maxHeartbeats 4000000 in
theorem nil_law (f : FactM) (A : Option Addr) (c : Nat) (m : List Nat) (w : World) (ha : AllW m) (hr : Rd w w.heap.size A (WB m)) (hsz : m.length ≤ 9223372036854775807) :
    Calls Try.prog 7 #[f.val, .slice A m.length c] w fun e w' => e = .returned (.bool true) ∧ Below w.heap.size w w' := by
  obtain ⟨⟨xd, xn, xk, xc, xf, xt, xA, xkn, xkc⟩, fA, fm, fc⟩ := f
  have CWK := kept (fun W => pworks_any W)
  have HR := kept hr
  have HA := kept ha
  obtain ⟨W, hW⟩ : ∃ W, (w.alloc (.cells #[.int .u16 (xd : Int), .int .u64 (xn : Int), .int .u8 (xk : Int), .int .u64 (xc : Int), .int .u8 (xf : Int), .string xt, .slice xA xkn xkc, .slice fA fm.length fc] 62)) = W := ⟨_, rfl⟩
  have HB0 : Kept (Below w.heap.size w W) := ⟨by rw [← hW]; exact (Below.refl _ _).alloc (Nat.le_refl _) _⟩
  have K0 : Kept (Blk W w.heap.size [.int .u16 (xd : Int), .int .u64 (xn : Int), .int .u8 (xk : Int), .int .u64 (xc : Int), .int .u8 (xf : Int), .string xt, .slice xA xkn xkc, .slice fA fm.length fc] 62) := ⟨by rw [← hW]; exact Blk.new w _ _⟩
  have hbA : Below W.heap.size W (W.alloc (.cells #[.int .u16 (xd : Int), .int .u64 (xn : Int), .int .u8 (xk : Int), .int .u64 (xc : Int), .int .u8 (xf : Int), .string xt, .slice xA xkn xkc, .slice fA fm.length fc] 62)) := (Below.refl _ _).alloc (Nat.le_refl _) _
  have HBA := kept hbA
  have CF := kept (few_any (some ⟨W.heap.size, 0, none⟩) 1 1 [⟨⟨xd, xn, xk, xc, xf, xt, xA, xkn, xkc⟩, fA, fm, fc⟩] (W.alloc (.cells #[.int .u16 (xd : Int), .int .u64 (xn : Int), .int .u8 (xk : Int), .int .u64 (xc : Int), .int .u8 (xf : Int), .string xt, .slice xA xkn xkc, .slice fA fm.length fc] 62)) rfl (by
    have := (Blk.new W [.int .u16 (xd : Int), .int .u64 (xn : Int), .int .u8 (xk : Int), .int .u64 (xc : Int), .int .u8 (xf : Int), .string xt, .slice xA xkn xkc, .slice fA fm.length fc] 62).rd
    unfold Elem.Rd Elem.cells
    rw [List.flatMap_singleton]
    exact this) (by show (1 : Nat) ≤ _; decide))
  have q0 := K0.out.cell (j := 0) rfl
  have q1 := K0.out.cell (j := 1) rfl
  have q2 := K0.out.cell (j := 2) rfl
  have q3 := K0.out.cell (j := 3) rfl
  have q4 := K0.out.cell (j := 4) rfl
  have q5 := K0.out.cell (j := 5) rfl
  have q6 := K0.out.cell (j := 6) rfl
  have q7 := K0.out.cell (j := 7) rfl
  unfold FactM.val
  dsimp only
  clear hr ha hbA
  generalize fewM [⟨⟨xd, xn, xk, xc, xf, xt, xA, xkn, xkc⟩, fA, fm, fc⟩] = fw at *
  by_cases hgo : fw = true ∧ m.length ≤ 20
  case neg =>
    cases fw with
    | false =>
      go_enter Try.func7, Try.ntmps7
      go_wp2_with fail
      refine CF.out.mono ?_
      rintro e w1 ⟨rfl, hb1⟩
      go_wp2_with fail
      refine (CWK.out _).mono ?_
      rintro e w2 ⟨rfl, hb2⟩
      go_wp2_with fail
      go_ret
      exact ⟨rfl, bnx (bnx (bnx HB0.out HBA.out) hb1) hb2⟩
    | true =>
      have hgt : (20 : Int) < (m.length : Int) := by simp at hgo; omega
      go_enter Try.func7, Try.ntmps7
      go_wp2_with fail
      refine CF.out.mono ?_
      rintro e w1 ⟨rfl, hb1⟩
      go_wp2_with fail
      refine (CWK.out _).mono ?_
      rintro e w2 ⟨rfl, hb2⟩
      go_wp2_with fail
      go_ret
      exact ⟨rfl, bnx (bnx (bnx HB0.out HBA.out) hb1) hb2⟩
  case pos =>
    obtain ⟨rfl, h20⟩ := hgo
    have hng : ¬ (20 : Int) < (m.length : Int) := by omega
    go_enter Try.func7, Try.ntmps7
    go_wp2_with fail
    refine CF.out.mono ?_
    rintro e w1 ⟨rfl, hb1⟩
    have HB1 := kept (bnx (bnx HB0.out HBA.out) hb1)
    have K1 := kept ((K0.out.next HBA.out).next hb1)
    clear hb1 CF HB0 HBA K0 hW q0 q1 q2 q3 q4 q5 q6 q7
    have q0 := K1.out.cell (j := 0) rfl
    have q1 := K1.out.cell (j := 1) rfl
    have q2 := K1.out.cell (j := 2) rfl
    have q3 := K1.out.cell (j := 3) rfl
    have q4 := K1.out.cell (j := 4) rfl
    have q5 := K1.out.cell (j := 5) rfl
    have q6 := K1.out.cell (j := 6) rfl
    have q7 := K1.out.cell (j := 7) rfl
    have CA := kept (add_nil ⟨xd, xn, xk, xc, xf, xt, xA, xkn, xkc⟩ fA fm.length fc w1)
    unfold EvM.val at CA
    dsimp only at CA
    go_wp2_with fail
    refine CA.out.mono ?_
    rintro e w2 ⟨rfl, hb2⟩
    have HB2 := kept (bnx HB1.out hb2)
    clear hb2 CA K1 HB1 q0 q1 q2 q3 q4 q5 q6 q7
    go_wp2_with fail
    refine (event_nil 0 _).mono ?_
    rintro e w3 ⟨rfl, hb3⟩
    have HB3 := kept (bnx HB2.out hb3)
    have hbA : Below w3.heap.size w3 (w3.alloc (.cells #[.int .u16 0, .int .u64 0, .int .u8 0, .int .u64 0, .int .u8 0, .string ⟨#[]⟩, .slice none 0 0] 59)) := (Below.refl _ _).alloc (Nat.le_refl _) _
    have HB4 := kept (bnx HB3.out hbA)
    clear hb3 hbA HB2 HB3
    go_wp2_with fail
    refine (len_any (.pointer none) 0 _ (.inl ⟨rfl, rfl⟩)).mono ?_
    rintro e w4 ⟨rfl, rfl⟩
    go_wp2_with fail
    refine (saw_nil 0 _).mono ?_
    rintro e w4 ⟨rfl, rfl⟩
    go_wp2_with fail
    refine (outs_nil 0 0 _).mono ?_
    rintro e w4 ⟨rfl, hb5⟩
    have HB5 := kept (bnx HB4.out hb5)
    have CL := kept (live_nil A m.length c m w4 rfl HA.out (HR.out.next HB5.out) (by omega))
    clear hb5 HB4
    go_wp2_with fail
    refine CL.out.mono ?_
    rintro e w5 ⟨⟨A5, c5, rfl⟩, hb6⟩
    have HB6 := kept (bnx HB5.out hb6)
    have CT := kept (list_nil A m.length c m w5 rfl HA.out (HR.out.next HB6.out) (by omega))
    clear hb6 HB5 CL
    go_wp2_with fail
    refine CT.out.mono ?_
    rintro e w6 ⟨rfl, hb7⟩
    have HB7 := kept (bnx HB6.out hb7)
    clear hb7 HB6 CT
    go_wp2_with fail
    refine (new_any w6).mono ?_
    rintro e w7 ⟨rfl, hP, hb8⟩
    have HB8 := kept (bnx HB7.out hb8)
    have HP7 := kept hP
    have hg7 : w6.heap.size < w7.heap.size := hP.2.1 _ rfl
    have hwg : w.heap.size ≤ w6.heap.size := HB7.out.size
    have CA1 := kept (add_yes _ _ [] wEdit none 0 0 [] _ HP7.out ⟨.inl rfl, by simp⟩ rfl all_nil Rd.nil (by simp))
    clear hb8 hP HB7
    go_wp2_with fail
    refine CA1.out.mono ?_
    rintro en w8 ⟨rfl, S2, A2, c2, hP2, hG2, -⟩
    have HP8 := kept hP2
    have HS2 : Kept (∀ k, S2 k → w.heap.size ≤ k) := ⟨fun k hk => (hG2.2 k hk).elim (fun h => by omega) (fun h => by have := HB8.out.size; omega)⟩
    have HB9 := kept (HB8.out.trans (hG2.below (B := w.heap.size) (by omega) (fun i e => by omega)))
    clear hP2 hG2 CA1 HP7 HB8
    have hE : Below w8.heap.size w8 ((w8.alloc (.cells #[.int .u64 3] 35)).alloc (.cells #[.int .u16 1, .int .u64 1] 46)) := ((Below.refl _ _).alloc (Nat.le_refl _) _).alloc (by simp) _
    have KS : Kept (Blk ((w8.alloc (.cells #[.int .u64 3] 35)).alloc (.cells #[.int .u16 1, .int .u64 1] 46)) w8.heap.size [.int .u64 3] 35) := ⟨(Blk.new w8 [.int .u64 3] _).alloc _⟩
    have CA2 := kept (add_yes _ _ _ (wKill (w8.heap.size + 1)) (some ⟨w8.heap.size, 0, none⟩) 1 1 [3] _ (HP8.out.next hE) ⟨.inr rfl, by simp [addF]⟩ rfl (all_one (by decide)) ((wone w8 3).alloc (by simp) _ |>.more (by simp)) (by simp))
    have HE := kept hE
    have hs8 : ((w8.alloc (.cells #[.int .u64 3] 35)).alloc (.cells #[.int .u16 1, .int .u64 1] 46)).heap.size = w8.heap.size + 2 := by simp
    clear hE
    unfold EvM.val wKill at CA2
    dsimp only at CA2
    go_wp2_with fail
    refine CA2.out.mono ?_
    rintro en w9 ⟨rfl, S3, A3, c3, hP3, hG3, hA3⟩
    rw [show (⟨0, 0, 2, 5, 0, ⟨#[]⟩, some ⟨w8.heap.size + 1, 0, none⟩, 1, 1⟩ : EvM) = wKill (w8.heap.size + 1) from rfl, nil_two] at hP3
    have hS3 : ¬ S3 w8.heap.size := fun h => (hG3.2 _ h).elim (fun h1 => by have := HP8.out.2.1 _ h1; omega) (fun h1 => by rw [hs8] at h1; omega)
    have hk9 := KS.out.upd hG3.1 (fun e => by have := HP8.out.2.1 _ e; omega)
    have hA2 : ∀ x, A2 = some x → x.block < w8.heap.size := fun x hx => by
      have h1 := (HP8.out.2.2.2.1 _ (by unfold addF; exact List.mem_append_right _ (List.mem_singleton.2 rfl))).2.1
      exact (OwnK.under h1 x.block (by rw [hx]; rfl)).2
    have HP9 := kept (hP3.store (p := ⟨w8.heap.size, 0, none⟩) hS3 (fun f hf x hx => by
      simp only [List.mem_cons, List.not_mem_nil, or_false] at hf
      rcases hf with rfl | rfl
      · have := hA2 x hx; dsimp only; omega
      · have := hA3 x hx; rw [hs8] at this; dsimp only; omega) (.int .u64 0))
    have HB10 := kept ((HB9.out.trans (HE.out.mono HB9.out.size)).trans (hG3.below (B := w.heap.size) (by have := HB9.out.size; rw [hs8]; omega) (fun i e => HS2.out i e)))
    have q0 := hk9.cell (j := 0) rfl
    have q1 := hk9.frozen 0
    have hw8 : w.heap.size ≤ w8.heap.size := HB9.out.size
    have HB11 := kept (HB10.out.setCell (p := ⟨w8.heap.size, 0, none⟩) hw8 (.int .u64 0))
    clear hP3 hG3 hA3 CA2 HP8 KS HE hk9 hA2 hS3 HB9 HB10
    go_upto_region 13 with fail
    clear q0 q1
    generalize w9.setCell ⟨w8.heap.size, 0, none⟩ (.int .u64 0) = v0 at *
    have CS := kept (saw_in _ _ _ 1 _ v0 HP9.out rfl)
    rw [join_1] at CS
    go_wp2_with fail
    refine CS.out.mono ?_
    rintro en v1 ⟨A5, c5, rfl, hown5, hc5, hb5⟩
    have HB12 := kept (bnx HB11.out hb5)
    have HP10 := kept (HP9.out.next hb5)
    have HBV := kept hb5
    obtain ⟨g5, rfl, hg5, hgw5, hcc5, hff5, hst5⟩ := OwnK.spot hown5 (k := 0) rfl
    clear hb5 hown5 CS hst5
    go_wp2_with fail
    go_loopw [94] (fun i wr => ∃ (j u : Nat), j ≤ 1 ∧ i = .int .i64 (j : Int) ∧ wr.cell? ⟨g5, 0, none⟩ = some (.int .u64 (u : Int)) ∧ wr.frozen? ⟨g5, 0, none⟩ = false ∧ Kept (Below v0.heap.size v0 wr)) (fun i _ => 1 - (intOf i).toNat)
    case atStart => exact ⟨0, 1, by omega, rfl, hcc5, hff5, HBV⟩
    case round =>
      clear hcc5 hff5 HB12 HP10 HBV
      obtain ⟨j, u, hj, rfl, hcc, hff, HBV⟩ := hrel
      rcases (show j = 0 ∨ j = 1 by omega) with rfl | rfl
      · have hbs : Below v0.heap.size v0 (wr.setCell ⟨g5, 0, none⟩ (.int .u64 0)) := HBV.out.setCell (p := ⟨g5, 0, none⟩) hg5 _
        have HBS := kept hbs
        have hcs : (wr.setCell ⟨g5, 0, none⟩ (.int .u64 0)).cell? ⟨g5, 0, none⟩ = some (.int .u64 0) := World.cell?_setCell_same wr _ _ hcc
        have hfs : (wr.setCell ⟨g5, 0, none⟩ (.int .u64 0)).frozen? ⟨g5, 0, none⟩ = false := by rw [World.frozen?_setCell]; exact hff
        have HCS := kept (And.intro hcs hfs)
        clear hbs hcs hfs HBV
        go_wp2_with fail
        go_roundw
        case rel => exact ⟨1, 0, by omega, rfl, HCS.out.1, HCS.out.2, HBS⟩
        case measure => simp [intOf]
      · have HPW := kept (HP9.out.next HBV.out)
        have HB12 := kept (bnx HB11.out HBV.out)
        have CE := kept (event_in _ _ _ 1 _ wr HPW.out rfl)
        unfold EvM.val at CE
        dsimp only at CE
        clear hcc hff HBV
        go_wp2_with fail
        refine CE.out.mono ?_
        rintro en v2 ⟨rfl, hb2⟩
        have hbA : Below v2.heap.size v2 (v2.alloc (.cells #[.int .u16 0, .int .u64 0, .int .u8 2, .int .u64 5, .int .u8 0, .string ⟨#[]⟩, .slice none 0 0] 59)) := (Below.refl _ _).alloc (Nat.le_refl _) _
        have HB13 := kept (bnx (bnx HB12.out hb2) hbA)
        have HP13 := kept ((HPW.out.next hb2).next hbA)
        have CO := kept (outs_any _ _ _ 1 0 _ HP13.out (by decide) (by decide))
        rw [outs_10] at CO
        clear hb2 hbA CE HPW HB12
        go_wp2_with fail
        refine CO.out.mono ?_
        rintro en v3 ⟨rfl, hb3⟩
        have HB14 := kept (bnx HB13.out hb3)
        have CS2 := kept (saw_in _ _ _ 1 _ v3 (HP13.out.next hb3) rfl)
        rw [join_1] at CS2
        clear hb3 CO HB13
        go_wp2_with fail
        refine CS2.out.mono ?_
        rintro en v4 ⟨A6, c6, rfl, hown6, hc6, hb4⟩
        have HB15 := kept (bnx HB14.out hb4)
        have hE : Below v4.heap.size v4 (v4.alloc (.cells #[.int .u64 1] 35)) := (Below.refl _ _).alloc (Nat.le_refl _) _
        have CQ := kept (eq_any _ _ A6 _ 1 1 c6 1 [1] [1] _ rfl rfl (hown6.rd.next hE) (wone v4 1) (by simp))
        have HB16 := kept (bnx HB15.out hE)
        clear hb4 hown6 hE CS2 HB14 HB15
        go_wp2_with fail
        refine CQ.out.mono ?_
        rintro en v5 ⟨rfl, q, rfl⟩
        have HB17 := kept (HB16.out.trans (below_draw _ _ q))
        clear CQ HB16
        go_wp2_with fail
        refine (CWK.out _).mono ?_
        rintro en v6 ⟨rfl, hb6⟩
        go_wp2_with fail
        go_ret
        exact ⟨rfl, bnx HB17.out hb6⟩
end Go.Proofs.Ytnmcclkpgbdenaa.Past
