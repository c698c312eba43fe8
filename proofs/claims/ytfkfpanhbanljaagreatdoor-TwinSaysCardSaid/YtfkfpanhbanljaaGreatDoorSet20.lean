import Derived.Test.YtfkfpanhbanljaaGreatDoorPhoneWalks
/- The walks of layer 46, continued: Norm, local, Same of the program. -/
namespace Go.Proofs.YtfkfpanhbanljaaGreatDoor.Phone
open Go.RowKit Go.Proofs.YtfkfpanhbanljaaGreatDoor.Mem Go.Proofs.YtfkfpanhbanljaaGreatDoor.Card Go.Proofs.YtfkfpanhbanljaaGreatDoor.Laid Go.Proofs.YtfkfpanhbanljaaGreatDoor.Fold

theorem below_ch {w w1 w2 : World} (h : Below w.heap.size w w1) (h2 : Below w1.heap.size w1 w2) : Below w.heap.size w w2 := h.trans (h2.mono h.size)
theorem zz_false (d : List UInt8) : Lib.trimPrefix d [48, 48] = (zz false d).2 ∧ Lib.hasPrefix d [48, 48] = (zz false d).1 := by
  unfold Lib.trimPrefix Lib.hasPrefix zz
  cases h : ([48, 48] : List UInt8).isPrefixOf d <;> simp
/-- what Norm gives -/
def normB (s : ByteArray) : ByteArray := bOf ((norm s.data.toList).getD [])
def normOk (s : ByteArray) : Bool := (norm s.data.toList).isSome
theorem normB_none {s : ByteArray} (h : norm s.data.toList = none) : normB s = ⟨#[]⟩ ∧ normOk s = false := by unfold normB normOk; rw [h]; exact ⟨rfl, rfl⟩
theorem normB_some {s : ByteArray} {x : List UInt8} (h : norm s.data.toList = some x) : normB s = bOf x ∧ normOk s = true := by unfold normB normOk; rw [h]; exact ⟨rfl, rfl⟩
theorem norm_tail {s : List UInt8} {p : Bool} {d : List UInt8} (h : okB (cutP (trimL s)).2 = true) (hz : zz (cutP (trimL s)).1 (digits (cutP (trimL s)).2) = (p, d)) : norm s = fin2 (p, d) := by unfold norm; rw [if_pos h, hz]
theorem norm_any (s : ByteArray) (w : World) (hs : s.size ≤ 140737488355000) : Calls Tryz.prog 80 #[.string s] w fun e w' => e = .returned (.tuple #[.string (normB s), .bool (normOk s)]) ∧ Below w.heap.size w w' := by
  have CB := kept (bare_any s w hs)
  have HT := kept (fun p d h hz => norm_tail (s := s.data.toList) (p := p) (d := d) h hz)
  have HN := kept (fun h => normB_none (s := s) h)
  have HS := kept (fun x h => normB_some (s := s) (x := x) h)
  have hdl : (digits (cutP (trimL s.data.toList)).2).length ≤ 140737488355000 := by
    have h1 : (trimL s.data.toList).length ≤ s.data.toList.length := (List.dropWhile_sublist _).length_le
    have h2 : ∀ t : List UInt8, (cutP t).2.length ≤ t.length := by
      intro t
      cases t with
      | nil => simp [cutP]
      | cons c t => by_cases h : c = 43 <;> simp [cutP, h]
    have h3 := h2 (trimL s.data.toList)
    have h4 : (digits (cutP (trimL s.data.toList)).2).length ≤ (cutP (trimL s.data.toList)).2.length := List.length_filter_le _ _
    simp at h1
    omega
  unfold BareRes at CB
  have HNO : Kept (okB (cutP (trimL s.data.toList)).2 = false → norm s.data.toList = none) := ⟨fun h => by unfold norm; rw [h]; rfl⟩
  cases hok : okB (cutP (trimL s.data.toList)).2 with
  | false =>
    rw [hok] at CB HNO
    have hn := HNO.out rfl
    have C0 := cutPrefix_any ⟨#[]⟩ ⟨#[48, 48]⟩
    have C0 : ∀ W : World, Calls Tryz.prog 99 #[.string ⟨#[]⟩, .string ⟨#[48, 48]⟩] W fun e w' => e = .returned (.tuple #[.string ⟨#[]⟩, .bool false]) ∧ w' = W := C0
    have C0 := kept C0
    obtain ⟨e1, e2⟩ := HN.out hn
    have E := kept (And.intro e1 e2)
    clear hok HT HN HS HNO hn e1 e2 hdl
    go_enter Tryz.func80, Tryz.ntmps80
    go_wp2_with fail
    refine CB.out.mono ?_
    rintro e w1 ⟨he, hb1⟩
    rw [if_neg (by decide)] at he
    subst he
    go_wp2_with fail
    refine (C0.out _).mono ?_
    rintro e w2 ⟨rfl, hw2⟩
    subst hw2
    go_wp2_with fail
    go_ret2
    exact ⟨by rw [E.out.1, E.out.2]; rfl, hb1⟩
  | true =>
    rw [hok] at CB HT
    clear HNO hok
    generalize digits (cutP (trimL s.data.toList)).2 = ds at *
    have hds := bOf_size ds
    cases hp : (cutP (trimL s.data.toList)).1 with
    | true =>
      rw [hp] at CB HT
      have hn := HT.out true ds rfl rfl
      clear hp HT
      by_cases h3 : ds.length < 3
      · have hnn : norm s.data.toList = none := by rw [hn]; unfold fin2; rw [if_pos (.inl h3)]
        obtain ⟨e1, e2⟩ := HN.out hnn
        have E := kept (And.intro e1 e2)
        clear hn hnn HN HS e1 e2
        go_enter Tryz.func80, Tryz.ntmps80
        go_wp2_with fail
        refine CB.out.mono ?_
        rintro e w1 ⟨he, hb1⟩
        rw [if_pos trivial] at he
        subst he
        go_wp2_with fail
        go_ret2
        exact ⟨by rw [E.out.1, E.out.2]; rfl, hb1⟩
      · by_cases h15 : 15 < ds.length
        · have hnn : norm s.data.toList = none := by rw [hn]; unfold fin2; rw [if_pos (.inr h15)]
          obtain ⟨e1, e2⟩ := HN.out hnn
          have E := kept (And.intro e1 e2)
          clear hn hnn HN HS e1 e2
          go_enter Tryz.func80, Tryz.ntmps80
          go_wp2_with fail
          refine CB.out.mono ?_
          rintro e w1 ⟨he, hb1⟩
          rw [if_pos trivial] at he
          subst he
          go_wp2_with fail
          go_ret2
          exact ⟨by rw [E.out.1, E.out.2]; rfl, hb1⟩
        · have hnn : norm s.data.toList = some (43 :: ds) := by rw [hn]; unfold fin2; rw [if_neg (by simp only []; omega)]; rfl
          obtain ⟨e1, e2⟩ := HS.out _ hnn
          have E := kept (And.intro e1 e2)
          have hcz : ¬ 9223372036854775807 < (⟨#[43]⟩ : ByteArray).size + (bOf ds).size := by have : (⟨#[43]⟩ : ByteArray).size = 1 := rfl; omega
          have hca : Kept ((⟨#[43]⟩ : ByteArray) ++ bOf ds = bOf (43 :: ds)) := ⟨by
            have : (⟨#[43]⟩ : ByteArray) = bOf [43] := rfl
            rw [this, bOf_app]; rfl⟩
          clear hn hnn HN HS e1 e2
          go_enter Tryz.func80, Tryz.ntmps80
          go_wp2_with fail
          refine CB.out.mono ?_
          rintro e w1 ⟨he, hb1⟩
          rw [if_pos trivial] at he
          subst he
          go_wp2_with fail
          go_ret2
          exact ⟨by rw [E.out.1, E.out.2, ← hca.out]; rfl, hb1⟩
    | false =>
      rw [hp] at CB HT
      have C0 := cutPrefix_any (bOf ds) ⟨#[48, 48]⟩
      obtain ⟨z1, z2⟩ := zz_false ds
      rw [data_bOf, show (⟨#[48, 48]⟩ : ByteArray).data.toList = [48, 48] from rfl, z1, z2] at C0
      have C0 : ∀ W : World, Calls Tryz.prog 99 #[.string (bOf ds), .string ⟨#[48, 48]⟩] W fun e w' => e = .returned (.tuple #[.string (bOf (zz false ds).2), .bool (zz false ds).1]) ∧ w' = W := C0
      have hzl : (zz false ds).2.length ≤ ds.length := by unfold zz; cases h : ([48, 48] : List UInt8).isPrefixOf ds <;> simp
      obtain ⟨q, hq⟩ : ∃ q, (zz false ds).1 = q := ⟨_, rfl⟩
      obtain ⟨d2, hd2⟩ : ∃ d2, (zz false ds).2 = d2 := ⟨_, rfl⟩
      have hn := HT.out q d2 rfl (by rw [← hq, ← hd2])
      rw [hq, hd2] at C0
      rw [hd2] at hzl
      have C0 := kept C0
      have hds2 := bOf_size d2
      clear hp HT z1 z2 hq hd2
      by_cases h3 : d2.length < 3
      · have hnn : norm s.data.toList = none := by rw [hn]; unfold fin2; rw [if_pos (.inl h3)]
        obtain ⟨e1, e2⟩ := HN.out hnn
        have E := kept (And.intro e1 e2)
        clear hn hnn HN HS e1 e2
        go_enter Tryz.func80, Tryz.ntmps80
        go_wp2_with fail
        refine CB.out.mono ?_
        rintro e w1 ⟨he, hb1⟩
        rw [if_pos trivial] at he
        subst he
        go_wp2_with fail
        refine (C0.out _).mono ?_
        rintro e w2 ⟨rfl, hw2⟩
        subst hw2
        go_wp2_with fail
        go_ret2
        exact ⟨by rw [E.out.1, E.out.2]; rfl, hb1⟩
      · by_cases h15 : 15 < d2.length
        · have hnn : norm s.data.toList = none := by rw [hn]; unfold fin2; rw [if_pos (.inr h15)]
          obtain ⟨e1, e2⟩ := HN.out hnn
          have E := kept (And.intro e1 e2)
          clear hn hnn HN HS e1 e2
          go_enter Tryz.func80, Tryz.ntmps80
          go_wp2_with fail
          refine CB.out.mono ?_
          rintro e w1 ⟨he, hb1⟩
          rw [if_pos trivial] at he
          subst he
          go_wp2_with fail
          refine (C0.out _).mono ?_
          rintro e w2 ⟨rfl, hw2⟩
          subst hw2
          go_wp2_with fail
          go_ret2
          exact ⟨by rw [E.out.1, E.out.2]; rfl, hb1⟩
        · have hnn : norm s.data.toList = some (if q then 43 :: d2 else d2) := by rw [hn]; unfold fin2; rw [if_neg (by simp only []; omega)]
          obtain ⟨e1, e2⟩ := HS.out _ hnn
          have E := kept (And.intro e1 e2)
          have hcz : ¬ 9223372036854775807 < (⟨#[43]⟩ : ByteArray).size + (bOf d2).size := by have : (⟨#[43]⟩ : ByteArray).size = 1 := rfl; omega
          have hca : Kept ((⟨#[43]⟩ : ByteArray) ++ bOf d2 = bOf (43 :: d2)) := ⟨by
            have : (⟨#[43]⟩ : ByteArray) = bOf [43] := rfl
            rw [this, bOf_app]; rfl⟩
          clear hn hnn HN HS e1 e2
          cases q with
          | true =>
            go_enter Tryz.func80, Tryz.ntmps80
            go_wp2_with fail
            refine CB.out.mono ?_
            rintro e w1 ⟨he, hb1⟩
            rw [if_pos trivial] at he
            subst he
            go_wp2_with fail
            refine (C0.out _).mono ?_
            rintro e w2 ⟨rfl, hw2⟩
            subst hw2
            go_wp2_with fail
            go_ret2
            exact ⟨by rw [E.out.1, E.out.2, if_pos trivial, ← hca.out]; rfl, hb1⟩
          | false =>
            go_enter Tryz.func80, Tryz.ntmps80
            go_wp2_with fail
            refine CB.out.mono ?_
            rintro e w1 ⟨he, hb1⟩
            rw [if_pos trivial] at he
            subst he
            go_wp2_with fail
            refine (C0.out _).mono ?_
            rintro e w2 ⟨rfl, hw2⟩
            subst hw2
            go_wp2_with fail
            go_ret2
            exact ⟨by rw [E.out.1, E.out.2, if_neg (by decide)]; rfl, hb1⟩
end Go.Proofs.YtfkfpanhbanljaaGreatDoor.Phone

/- The walks of layer 46, continued: local, Same of the program; ends, Same of the document. -/
namespace Go.Proofs.YtfkfpanhbanljaaGreatDoor.Phone
open Go.RowKit Go.Proofs.YtfkfpanhbanljaaGreatDoor.Mem Go.Proofs.YtfkfpanhbanljaaGreatDoor.Card Go.Proofs.YtfkfpanhbanljaaGreatDoor.Laid Go.Proofs.YtfkfpanhbanljaaGreatDoor.Fold

/-- a text that is a number's one form -/
def NFB (s : ByteArray) : Prop := NF s.data.toList
def endsB (a b : ByteArray) : Bool := ends a.data.toList b.data.toList
theorem nf_cons {x : List UInt8} (h : NF x) : ∃ c t, x = c :: t ∧ ((c = 43 ∧ AllD t) ∨ (c ≠ 43 ∧ AllD (c :: t))) := by
  cases h with
  | plus d h h1 h2 => exact ⟨43, d, rfl, .inl ⟨rfl, h⟩⟩
  | bare _ h h1 h2 h3 =>
    cases x with
    | nil => simp at h1
    | cons c t => exact ⟨c, t, rfl, .inr ⟨(head_digit (h c List.mem_cons_self)).2, h⟩⟩
theorem drop_all {x : List UInt8} (h : AllD x) : AllD (x.dropWhile (· == 48)) := fun c hc => h c ((List.dropWhile_sublist _).subset hc)
theorem no_plus {x : List UInt8} (h : AllD x) : Lib.hasPrefix x [43] = false := by
  unfold Lib.hasPrefix
  cases x with
  | nil => rfl
  | cons c t =>
    have := (head_digit (h c List.mem_cons_self)).2
    have h1 : ((43 : UInt8) == c) = false := by simpa using fun e => this e.symm
    simp [List.isPrefixOf, h1]
theorem local_any (a b : ByteArray) (w : World) (ha : NFB a) (hb : NFB b) : Calls Tryz.prog 81 #[.string a, .string b] w fun e w' => e = .returned (.bool (endsB a b)) ∧ w' = w := by
  obtain ⟨c, t, hx, hc⟩ := nf_cons ha
  obtain ⟨c2, t2, hx2, hc2⟩ := nf_cons hb
  have hal := nf_length ha
  have hbl := nf_length hb
  obtain rfl : a = bOf (c :: t) := by rw [← hx, bOf_data]
  obtain rfl : b = bOf (c2 :: t2) := by rw [← hx2, bOf_data]
  rw [data_bOf] at hal hbl
  clear hx hx2
  have CT := trimLeft_one (bOf (c2 :: t2)) 48 (by decide) w
  rw [data_bOf] at CT
  have CT : Calls Tryz.prog 100 #[.string (bOf (c2 :: t2)), .string ⟨#[48]⟩] w fun e w' => e = .returned (.string (bOf ((c2 :: t2).dropWhile (· == 48)))) ∧ w' = w := CT
  have HE : Kept (endsB (bOf (c :: t)) (bOf (c2 :: t2)) = (decide (c = 43) && !decide (c2 = 43) && decide (6 ≤ ((c2 :: t2).dropWhile (· == 48)).length) && ((c2 :: t2).dropWhile (· == 48)).isSuffixOf t)) := ⟨by
    unfold endsB ends
    rw [data_bOf, data_bOf]
    simp only [List.head?_cons, List.drop_succ_cons, List.drop_zero]
    rw [show (some c == some 43) = decide (c = 43) by rw [Bool.eq_iff_iff]; simp, show (some c2 == some (43 : UInt8)) = decide (c2 = 43) by rw [Bool.eq_iff_iff]; simp]⟩
  have hP : Lib.hasPrefix ((c2 :: t2).dropWhile (· == 48)) [43] = decide (c2 = 43) := by
    rcases hc2 with ⟨rfl, h⟩ | ⟨h1, h⟩
    · rfl
    · rw [no_plus (drop_all h), decide_eq_false h1]
  have hul : ((c2 :: t2).dropWhile (· == 48)).length ≤ 16 := by
    have := (List.dropWhile_sublist (· == 48) (l := c2 :: t2)).length_le
    omega
  clear hc hc2
  generalize (c2 :: t2).dropWhile (· == 48) = u at *
  have CP := hasPrefix_any (bOf u) ⟨#[43]⟩
  rw [data_bOf, show (⟨#[43]⟩ : ByteArray).data.toList = [43] from rfl, hP] at CP
  have hex : (bOf (c :: t)).extract 1 (bOf (c :: t)).size = bOf t := by
    apply ByteArray.ext
    simp [bOf, ByteArray.size]
  have CS := hasSuffix_any (bOf t) (bOf u)
  rw [data_bOf, data_bOf] at CS
  have CS := kept (fun W => CS W (by rw [bOf_size]; simp at hal; omega))
  rw [show ((u.isSuffixOf t) : Bool) = Lib.hasSuffix t u from rfl] at HE
  have CT := kept CT
  have CP := kept CP
  have hz := bOf_size (c :: t)
  have hz2 := bOf_size u
  have hh : (bOf (c :: t))[0]'(by rw [bOf_size]; simp) = c := rfl
  have hpos : 0 < (bOf (c :: t)).size := by rw [bOf_size]; simp
  have hpos2 : (1 : Int) ≤ ((bOf (c :: t)).size : Int) := by omega
  clear hP hz
  have HH := kept hh
  by_cases h43 : c = 43
  · subst h43
    have hq : (((43 : UInt8).toNat : Int) == 43) = true := by decide
    go_enter Tryz.func81, Tryz.ntmps81
    go_wp2_with fail
    refine CT.out.mono ?_
    rintro e w1 ⟨rfl, hw1⟩
    subst hw1
    go_wp2_with fail
    refine (CP.out _).mono ?_
    rintro e w2 ⟨rfl, hw2⟩
    subst hw2
    by_cases h2 : c2 = 43
    · rw [decide_eq_true h2] at HE ⊢
      clear h2
      go_wp2_with fail
      go_ret
      exact ⟨by rw [HE.out]; rfl, rfl⟩
    · rw [decide_eq_false h2] at HE ⊢
      clear h2
      by_cases h6 : 6 ≤ u.length
      · rw [decide_eq_true h6] at HE
        have h6i : (6 : Int) ≤ (u.length : Int) := by omega
        generalize (Lib.hasSuffix t u) = r at *
        go_wp2_with fail
        refine (CS.out _).mono ?_
        rintro e w3 ⟨rfl, hw3⟩
        subst hw3
        go_wp2_with fail
        go_ret
        exact ⟨by rw [HE.out]; rfl, rfl⟩
      · rw [decide_eq_false h6] at HE
        have h6i : ¬ (6 : Int) ≤ (u.length : Int) := by omega
        go_wp2_with fail
        go_ret
        exact ⟨by rw [HE.out]; rfl, rfl⟩
  · rw [decide_eq_false h43] at HE
    have hq : ((c.toNat : Int) == 43) = false := by
      rw [beq_eq_false_iff_ne]
      intro e
      exact h43 (UInt8.toNat_inj.1 (show c.toNat = (43 : UInt8).toNat by have : (43 : UInt8).toNat = 43 := rfl; omega))
    clear h43
    go_enter Tryz.func81, Tryz.ntmps81
    go_wp2_with fail
    refine CT.out.mono ?_
    rintro e w1 ⟨rfl, hw1⟩
    subst hw1
    go_wp2_with fail
    go_ret
    exact ⟨by rw [HE.out]; rfl, rfl⟩
end Go.Proofs.YtfkfpanhbanljaaGreatDoor.Phone
