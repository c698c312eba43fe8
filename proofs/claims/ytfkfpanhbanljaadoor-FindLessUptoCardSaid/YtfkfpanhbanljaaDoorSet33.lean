import Derived.Test.YtfkfpanhbanljaaDoorSet48
/- The walks of layer 46, continued: local, Same of the program; ends, Same of the document. -/
namespace Go.Proofs.YtfkfpanhbanljaaDoor.Phone
open Go.RowKit Go.Proofs.YtfkfpanhbanljaaDoor.Mem Go.Proofs.YtfkfpanhbanljaaDoor.Card Go.Proofs.YtfkfpanhbanljaaDoor.Laid Go.Proofs.YtfkfpanhbanljaaDoor.Fold

/-- a text that is a number's one form -/
def NFB (s : ByteArray) : Prop := NF s.data.toList
def endsB (a b : ByteArray) : Bool := ends a.data.toList b.data.toList
theorem nf_cons {x : List UInt8} (h : NF x) : ∃ c t, x = c :: t ∧ ((c = 43 ∧ AllD t) ∨ (c ≠ 43 ∧ AllD (c :: t))) := by
  cases h with
  | plus d h h1 h2 => exact ⟨43, d, rfl, .inl ⟨rfl, h⟩⟩
  | bare _ h h1 h2 h3 =>
    cases x with
    | nil => simp at h1
    | cons c t => exact ⟨c, t, rfl, .inr ⟨(head_digit (h c List.mem_cons_self)).2, h⟩⟩
theorem drop_all {x : List UInt8} (h : AllD x) : AllD (x.dropWhile (· == 48)) := fun c hc => h c ((List.dropWhile_sublist _).subset hc)
theorem no_plus {x : List UInt8} (h : AllD x) : Lib.hasPrefix x [43] = false := by
  unfold Lib.hasPrefix
  cases x with
  | nil => rfl
  | cons c t =>
    have := (head_digit (h c List.mem_cons_self)).2
    have h1 : ((43 : UInt8) == c) = false := by simpa using fun e => this e.symm
    simp [List.isPrefixOf, h1]
theorem local_any (a b : ByteArray) (w : World) (ha : NFB a) (hb : NFB b) : Calls Tryd.prog 89 #[.string a, .string b] w fun e w' => e = .returned (.bool (endsB a b)) ∧ w' = w := by
  obtain ⟨c, t, hx, hc⟩ := nf_cons ha
  obtain ⟨c2, t2, hx2, hc2⟩ := nf_cons hb
  have hal := nf_length ha
  have hbl := nf_length hb
  obtain rfl : a = bOf (c :: t) := by rw [← hx, bOf_data]
  obtain rfl : b = bOf (c2 :: t2) := by rw [← hx2, bOf_data]
  rw [data_bOf] at hal hbl
  clear hx hx2
  have CT := trimLeft_one (bOf (c2 :: t2)) 48 (by decide) w
  rw [data_bOf] at CT
  have CT : Calls Tryd.prog 117 #[.string (bOf (c2 :: t2)), .string ⟨#[48]⟩] w fun e w' => e = .returned (.string (bOf ((c2 :: t2).dropWhile (· == 48)))) ∧ w' = w := CT
  have HE : Kept (endsB (bOf (c :: t)) (bOf (c2 :: t2)) = (decide (c = 43) && !decide (c2 = 43) && decide (6 ≤ ((c2 :: t2).dropWhile (· == 48)).length) && ((c2 :: t2).dropWhile (· == 48)).isSuffixOf t)) := ⟨by
    unfold endsB ends
    rw [data_bOf, data_bOf]
    simp only [List.head?_cons, List.drop_succ_cons, List.drop_zero]
    rw [show (some c == some 43) = decide (c = 43) by rw [Bool.eq_iff_iff]; simp, show (some c2 == some (43 : UInt8)) = decide (c2 = 43) by rw [Bool.eq_iff_iff]; simp]⟩
  have hP : Lib.hasPrefix ((c2 :: t2).dropWhile (· == 48)) [43] = decide (c2 = 43) := by
    rcases hc2 with ⟨rfl, h⟩ | ⟨h1, h⟩
    · rfl
    · rw [no_plus (drop_all h), decide_eq_false h1]
  have hul : ((c2 :: t2).dropWhile (· == 48)).length ≤ 16 := by
    have := (List.dropWhile_sublist (· == 48) (l := c2 :: t2)).length_le
    omega
  clear hc hc2
  generalize (c2 :: t2).dropWhile (· == 48) = u at *
  have CP := hasPrefix_any (bOf u) ⟨#[43]⟩
  rw [data_bOf, show (⟨#[43]⟩ : ByteArray).data.toList = [43] from rfl, hP] at CP
  have hex : (bOf (c :: t)).extract 1 (bOf (c :: t)).size = bOf t := by
    apply ByteArray.ext
    simp [bOf, ByteArray.size]
  have CS := hasSuffix_any (bOf t) (bOf u)
  rw [data_bOf, data_bOf] at CS
  have CS := kept (fun W => CS W (by rw [bOf_size]; simp at hal; omega))
  rw [show ((u.isSuffixOf t) : Bool) = Lib.hasSuffix t u from rfl] at HE
  have CT := kept CT
  have CP := kept CP
  have hz := bOf_size (c :: t)
  have hz2 := bOf_size u
  have hh : (bOf (c :: t))[0]'(by rw [bOf_size]; simp) = c := rfl
  have hpos : 0 < (bOf (c :: t)).size := by rw [bOf_size]; simp
  have hpos2 : (1 : Int) ≤ ((bOf (c :: t)).size : Int) := by omega
  clear hP hz
  have HH := kept hh
  by_cases h43 : c = 43
  · subst h43
    have hq : (((43 : UInt8).toNat : Int) == 43) = true := by decide
    go_enter Tryd.func89, Tryd.ntmps89
    go_wp2_with fail
    refine CT.out.mono ?_
    rintro e w1 ⟨rfl, hw1⟩
    subst hw1
    go_wp2_with fail
    refine (CP.out _).mono ?_
    rintro e w2 ⟨rfl, hw2⟩
    subst hw2
    by_cases h2 : c2 = 43
    · rw [decide_eq_true h2] at HE ⊢
      clear h2
      go_wp2_with fail
      go_ret
      exact ⟨by rw [HE.out]; rfl, rfl⟩
    · rw [decide_eq_false h2] at HE ⊢
      clear h2
      by_cases h6 : 6 ≤ u.length
      · rw [decide_eq_true h6] at HE
        have h6i : (6 : Int) ≤ (u.length : Int) := by omega
        generalize (Lib.hasSuffix t u) = r at *
        go_wp2_with fail
        refine (CS.out _).mono ?_
        rintro e w3 ⟨rfl, hw3⟩
        subst hw3
        go_wp2_with fail
        go_ret
        exact ⟨by rw [HE.out]; rfl, rfl⟩
      · rw [decide_eq_false h6] at HE
        have h6i : ¬ (6 : Int) ≤ (u.length : Int) := by omega
        go_wp2_with fail
        go_ret
        exact ⟨by rw [HE.out]; rfl, rfl⟩
  · rw [decide_eq_false h43] at HE
    have hq : ((c.toNat : Int) == 43) = false := by
      rw [beq_eq_false_iff_ne]
      intro e
      exact h43 (UInt8.toNat_inj.1 (show c.toNat = (43 : UInt8).toNat by have : (43 : UInt8).toNat = 43 := rfl; omega))
    clear h43
    go_enter Tryd.func89, Tryd.ntmps89
    go_wp2_with fail
    refine CT.out.mono ?_
    rintro e w1 ⟨rfl, hw1⟩
    subst hw1
    go_wp2_with fail
    go_ret
    exact ⟨by rw [HE.out]; rfl, rfl⟩
end Go.Proofs.YtfkfpanhbanljaaDoor.Phone

/- The walks of layer 46, continued: the document's Norm. -/
namespace Go.Proofs.YtfkfpanhbanljaaDoor.Phone
open Go.RowKit Go.Proofs.YtfkfpanhbanljaaDoor.Mem Go.Proofs.YtfkfpanhbanljaaDoor.Card Go.Proofs.YtfkfpanhbanljaaDoor.Laid Go.Proofs.YtfkfpanhbanljaaDoor.Fold

theorem num_eq (c : UInt8) (n : Nat) (hn : n < 256) : ((c.toNat : Int) == (n : Int)) = (c == UInt8.ofNat n) := by
  rw [Bool.eq_iff_iff, beq_iff_eq, beq_iff_eq]
  constructor
  · intro h
    apply UInt8.toNat_inj.1
    simp only [UInt8.toNat_ofNat']
    omega
  · rintro rfl
    simp only [UInt8.toNat_ofNat']
    omega
theorem bOf_extract (l : List UInt8) (k : Nat) : (bOf l).extract 0 k = bOf (l.take k) := by
  apply ByteArray.ext
  simp [bOf]
def plusV (b : Bool) : Value := .string (if b then ⟨#[43]⟩ else ⟨#[]⟩)
theorem take_data (s : ByteArray) (k : Nat) (h : k < s.size) : s.data.toList.take (k + 1) = s.data.toList.take k ++ [s[k]] := by
  rw [List.take_succ_eq_append_getElem (by simpa using h)]; rfl
theorem scan_take {s : ByteArray} {k : Nat} {st : Scan} (h : k < s.size) (hs : scan (s.data.toList.take k) ⟨[], false, false⟩ = some st) : scan (s.data.toList.take (k + 1)) ⟨[], false, false⟩ = step st s[k] := by
  rw [take_data s k h, scan_snoc, hs]; rfl
theorem scan_fail {s : ByteArray} {k : Nat} (hs : scan (s.data.toList.take k) ⟨[], false, false⟩ = none) : scan s.data.toList ⟨[], false, false⟩ = none := by
  have : ∀ (a b : List UInt8) (st : Scan), scan a st = none → scan (a ++ b) st = none := by
    intro a
    induction a with
    | nil => intro b st h; simp [scan] at h
    | cons c a ih =>
      intro b st h
      rw [List.cons_append]
      unfold scan at h ⊢
      cases hst : step st c with
      | none => rfl
      | some s' => rw [hst] at h; exact ih b s' h
  have h2 := this _ (s.data.toList.drop k) _ hs
  rwa [List.take_append_drop] at h2
theorem norm_scan (s : List UInt8) : norm s = (scan s ⟨[], false, false⟩).bind fun r => fin2 (zz r.plus r.d) := by
  have h := scan_all s
  unfold norm
  cases hs : scan s ⟨[], false, false⟩ with
  | none =>
    rw [hs] at h
    split at h
    · cases h
    · rename_i hk
      rw [if_neg hk]; rfl
  | some r =>
    rw [hs] at h
    split at h
    · rename_i hk
      rw [if_pos hk]
      injection h with h
      injection h with h1 h2
      show _ = fin2 (zz r.plus r.d)
      rw [h1, h2]
    · cases h
theorem extract_one (s : ByteArray) (k : Nat) (h : k < s.size) : s.extract k (k + 1) = bOf [s[k]] := by
  have := one_extract s.data.toList k (by rw [bOf_data]; exact h)
  have e : ∀ (u : ByteArray), u = s → ∀ hu : k < u.size, u.extract k (k + 1) = ⟨#[u[k]]⟩ → s.extract k (k + 1) = bOf [s[k]] := by
    rintro u rfl hu h2
    exact h2
  exact e _ (bOf_data s) (by rw [bOf_data]; exact h) this
end Go.Proofs.YtfkfpanhbanljaaDoor.Phone

/- The walks of layer 46, continued: ends of the document; Same of both. -/
namespace Go.Proofs.YtfkfpanhbanljaaDoor.Phone
open Go.RowKit Go.Proofs.YtfkfpanhbanljaaDoor.Mem Go.Proofs.YtfkfpanhbanljaaDoor.Card Go.Proofs.YtfkfpanhbanljaaDoor.Laid Go.Proofs.YtfkfpanhbanljaaDoor.Fold

def strLen : Value → Nat
  | .string s => s.size
  | _ => 0
theorem strLen_mk (s : ByteArray) : strLen (.string s) = s.size := rfl
end Go.Proofs.YtfkfpanhbanljaaDoor.Phone

/- The walks of layer 46, continued: Same of both (written by a small program of this claim's). -/
namespace Go.Proofs.YtfkfpanhbanljaaDoor.Phone
open Go.RowKit Go.Proofs.YtfkfpanhbanljaaDoor.Mem Go.Proofs.YtfkfpanhbanljaaDoor.Card Go.Proofs.YtfkfpanhbanljaaDoor.Laid Go.Proofs.YtfkfpanhbanljaaDoor.Fold

def sameB (a b : ByteArray) : Bool := same a.data.toList b.data.toList
theorem same_any (a b : ByteArray) (w : World) (ha : a.size ≤ 140737488355000) (hb : b.size ≤ 140737488355000) : Calls Tryd.prog 59 #[.string a, .string b] w fun e w' => e = .returned (.bool (sameB a b)) ∧ Below w.heap.size w w' := by
  have C1 := kept (norm_any a w ha)
  have C2 := kept (fun W => norm_any b W hb)
  have HS : Kept (sameB a b = (match norm a.data.toList, norm b.data.toList with | some x, some y => x == y || ends x y || ends y x | _, _ => false)) := ⟨rfl⟩
  have HA0 := kept (fun h => normB_none (s := a) h)
  have HA1 := kept (fun x h => normB_some (s := a) (x := x) h)
  have HB0 := kept (fun h => normB_none (s := b) h)
  have HB1 := kept (fun x h => normB_some (s := b) (x := x) h)
  have NA := kept (fun x h => norm_nf (s := a.data.toList) (x := x) h)
  have NB := kept (fun x h => norm_nf (s := b.data.toList) (x := x) h)
  cases hA : norm a.data.toList with
  | none =>
    have HR : Kept (sameB a b = false) := ⟨by rw [HS.out, hA]⟩
    obtain ⟨e1, e2⟩ := HA0.out hA
    rw [e1, e2] at C1
    generalize normB b = y at *
    generalize normOk b = yo at *
    clear HS HA0 HA1 HB0 HB1 NA NB hA e1 e2
    go_enter Tryd.func59, Tryd.ntmps59
    go_wp2_with fail
    refine C1.out.mono ?_
    rintro e w1 ⟨rfl, hb1⟩
    go_wp2_with fail
    refine (C2.out _).mono ?_
    rintro e w2 ⟨rfl, hb2⟩
    have hb2 := below_ch hb1 hb2
    go_wp2_with fail
    go_ret
    exact ⟨by rw [HR.out]; rfl, hb2⟩
  | some x =>
    obtain ⟨e1, e2⟩ := HA1.out x hA
    rw [e1, e2] at C1
    cases hB : norm b.data.toList with
    | none =>
      have HR : Kept (sameB a b = false) := ⟨by rw [HS.out, hA, hB]⟩
      obtain ⟨e3, e4⟩ := HB0.out hB
      rw [e3, e4] at C2
      clear HS HA0 HA1 HB0 HB1 NA NB hA hB e1 e2 e3 e4
      go_enter Tryd.func59, Tryd.ntmps59
      go_wp2_with fail
      refine C1.out.mono ?_
      rintro e w1 ⟨rfl, hb1⟩
      go_wp2_with fail
      refine (C2.out _).mono ?_
      rintro e w2 ⟨rfl, hb2⟩
      have hb2 := below_ch hb1 hb2
      go_wp2_with fail
      go_ret
      exact ⟨by rw [HR.out]; rfl, hb2⟩
    | some y =>
      obtain ⟨e3, e4⟩ := HB1.out y hB
      rw [e3, e4] at C2
      have nx : NFB (bOf x) := by unfold NFB; rw [data_bOf]; exact NA.out x hA
      have ny : NFB (bOf y) := by unfold NFB; rw [data_bOf]; exact NB.out y hB
      have L1 := kept (fun W => local_any (bOf x) (bOf y) W nx ny)
      have L2 := kept (fun W => local_any (bOf y) (bOf x) W ny nx)
      have HR : Kept (sameB a b = (decide (bOf x = bOf y) || endsB (bOf x) (bOf y) || endsB (bOf y) (bOf x))) := ⟨by
        rw [HS.out, hA, hB]
        unfold endsB
        rw [data_bOf, data_bOf]
        have : decide (bOf x = bOf y) = (x == y) := by rw [Bool.eq_iff_iff, decide_eq_true_eq, beq_iff_eq]; exact ⟨bOf_inj, fun h => by rw [h]⟩
        rw [this]⟩
      have hq := str_beq (bOf x) (bOf y)
      clear HS HA0 HA1 HB0 HB1 NA NB hA hB e1 e2 e3 e4 nx ny
      generalize endsB (bOf x) (bOf y) = r1 at *
      generalize endsB (bOf y) (bOf x) = r2 at *
      generalize decide (bOf x = bOf y) = r0 at *
      cases r0 with
      | true =>
        go_enter Tryd.func59, Tryd.ntmps59
        go_wp2_with fail
        refine C1.out.mono ?_
        rintro e w1 ⟨rfl, hb1⟩
        go_wp2_with fail
        refine (C2.out _).mono ?_
        rintro e w2 ⟨rfl, hb2⟩
        have hb2 := below_ch hb1 hb2
        go_wp2_with fail
        go_ret
        exact ⟨by rw [HR.out]; rfl, hb2⟩
      | false =>
        cases r1 with
        | true =>
          go_enter Tryd.func59, Tryd.ntmps59
          go_wp2_with fail
          refine C1.out.mono ?_
          rintro e w1 ⟨rfl, hb1⟩
          go_wp2_with fail
          refine (C2.out _).mono ?_
          rintro e w2 ⟨rfl, hb2⟩
          have hb2 := below_ch hb1 hb2
          go_wp2_with fail
          refine (L1.out _).mono ?_
          rintro e w3 ⟨rfl, hw3⟩
          subst hw3
          go_wp2_with fail
          go_ret
          exact ⟨by rw [HR.out]; rfl, hb2⟩
        | false =>
          go_enter Tryd.func59, Tryd.ntmps59
          go_wp2_with fail
          refine C1.out.mono ?_
          rintro e w1 ⟨rfl, hb1⟩
          go_wp2_with fail
          refine (C2.out _).mono ?_
          rintro e w2 ⟨rfl, hb2⟩
          have hb2 := below_ch hb1 hb2
          go_wp2_with fail
          refine (L1.out _).mono ?_
          rintro e w3 ⟨rfl, hw3⟩
          subst hw3
          go_wp2_with fail
          refine (L2.out _).mono ?_
          rintro e w4 ⟨rfl, hw4⟩
          subst hw4
          go_wp2_with fail
          go_ret
          exact ⟨by rw [HR.out]; rfl, hb2⟩
end Go.Proofs.YtfkfpanhbanljaaDoor.Phone
