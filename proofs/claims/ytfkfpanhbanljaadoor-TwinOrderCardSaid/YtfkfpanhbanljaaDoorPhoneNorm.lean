/- The walks of layer 46, continued: Norm, local, Same of the program. -/
import Derived.Test.YtfkfpanhbanljaaDoorPhoneWalks
namespace Go.Proofs.YtfkfpanhbanljaaDoor.Phone
open Go.RowKit Go.Proofs.YtfkfpanhbanljaaDoor.Mem Go.Proofs.YtfkfpanhbanljaaDoor.Card Go.Proofs.YtfkfpanhbanljaaDoor.Laid Go.Proofs.YtfkfpanhbanljaaDoor.Fold

theorem below_ch {w w1 w2 : World} (h : Below w.heap.size w w1) (h2 : Below w1.heap.size w1 w2) : Below w.heap.size w w2 := h.trans (h2.mono h.size)
theorem zz_false (d : List UInt8) : Lib.trimPrefix d [48, 48] = (zz false d).2 ∧ Lib.hasPrefix d [48, 48] = (zz false d).1 := by
  unfold Lib.trimPrefix Lib.hasPrefix zz
  cases h : ([48, 48] : List UInt8).isPrefixOf d <;> simp
/-- what Norm gives -/
def normB (s : ByteArray) : ByteArray := bOf ((norm s.data.toList).getD [])
def normOk (s : ByteArray) : Bool := (norm s.data.toList).isSome
theorem normB_none {s : ByteArray} (h : norm s.data.toList = none) : normB s = ⟨#[]⟩ ∧ normOk s = false := by unfold normB normOk; rw [h]; exact ⟨rfl, rfl⟩
theorem normB_some {s : ByteArray} {x : List UInt8} (h : norm s.data.toList = some x) : normB s = bOf x ∧ normOk s = true := by unfold normB normOk; rw [h]; exact ⟨rfl, rfl⟩
theorem norm_tail {s : List UInt8} {p : Bool} {d : List UInt8} (h : okB (cutP (trimL s)).2 = true) (hz : zz (cutP (trimL s)).1 (digits (cutP (trimL s)).2) = (p, d)) : norm s = fin2 (p, d) := by unfold norm; rw [if_pos h, hz]
theorem norm_any (s : ByteArray) (w : World) (hs : s.size ≤ 140737488355000) : Calls Tryd.prog 88 #[.string s] w fun e w' => e = .returned (.tuple #[.string (normB s), .bool (normOk s)]) ∧ Below w.heap.size w w' := by
  have CB := kept (bare_any s w hs)
  have HT := kept (fun p d h hz => norm_tail (s := s.data.toList) (p := p) (d := d) h hz)
  have HN := kept (fun h => normB_none (s := s) h)
  have HS := kept (fun x h => normB_some (s := s) (x := x) h)
  have hdl : (digits (cutP (trimL s.data.toList)).2).length ≤ 140737488355000 := by
    have h1 : (trimL s.data.toList).length ≤ s.data.toList.length := (List.dropWhile_sublist _).length_le
    have h2 : ∀ t : List UInt8, (cutP t).2.length ≤ t.length := by
      intro t
      cases t with
      | nil => simp [cutP]
      | cons c t => by_cases h : c = 43 <;> simp [cutP, h]
    have h3 := h2 (trimL s.data.toList)
    have h4 : (digits (cutP (trimL s.data.toList)).2).length ≤ (cutP (trimL s.data.toList)).2.length := List.length_filter_le _ _
    simp at h1
    omega
  unfold BareRes at CB
  have HNO : Kept (okB (cutP (trimL s.data.toList)).2 = false → norm s.data.toList = none) := ⟨fun h => by unfold norm; rw [h]; rfl⟩
  cases hok : okB (cutP (trimL s.data.toList)).2 with
  | false =>
    rw [hok] at CB HNO
    have hn := HNO.out rfl
    have C0 := cutPrefix_any ⟨#[]⟩ ⟨#[48, 48]⟩
    have C0 : ∀ W : World, Calls Tryd.prog 116 #[.string ⟨#[]⟩, .string ⟨#[48, 48]⟩] W fun e w' => e = .returned (.tuple #[.string ⟨#[]⟩, .bool false]) ∧ w' = W := C0
    have C0 := kept C0
    obtain ⟨e1, e2⟩ := HN.out hn
    have E := kept (And.intro e1 e2)
    clear hok HT HN HS HNO hn e1 e2 hdl
    go_enter Tryd.func88, Tryd.ntmps88
    go_wp2_with fail
    refine CB.out.mono ?_
    rintro e w1 ⟨he, hb1⟩
    rw [if_neg (by decide)] at he
    subst he
    go_wp2_with fail
    refine (C0.out _).mono ?_
    rintro e w2 ⟨rfl, hw2⟩
    subst hw2
    go_wp2_with fail
    go_ret2
    exact ⟨by rw [E.out.1, E.out.2]; rfl, hb1⟩
  | true =>
    rw [hok] at CB HT
    clear HNO hok
    generalize digits (cutP (trimL s.data.toList)).2 = ds at *
    have hds := bOf_size ds
    cases hp : (cutP (trimL s.data.toList)).1 with
    | true =>
      rw [hp] at CB HT
      have hn := HT.out true ds rfl rfl
      clear hp HT
      by_cases h3 : ds.length < 3
      · have hnn : norm s.data.toList = none := by rw [hn]; unfold fin2; rw [if_pos (.inl h3)]
        obtain ⟨e1, e2⟩ := HN.out hnn
        have E := kept (And.intro e1 e2)
        clear hn hnn HN HS e1 e2
        go_enter Tryd.func88, Tryd.ntmps88
        go_wp2_with fail
        refine CB.out.mono ?_
        rintro e w1 ⟨he, hb1⟩
        rw [if_pos trivial] at he
        subst he
        go_wp2_with fail
        go_ret2
        exact ⟨by rw [E.out.1, E.out.2]; rfl, hb1⟩
      · by_cases h15 : 15 < ds.length
        · have hnn : norm s.data.toList = none := by rw [hn]; unfold fin2; rw [if_pos (.inr h15)]
          obtain ⟨e1, e2⟩ := HN.out hnn
          have E := kept (And.intro e1 e2)
          clear hn hnn HN HS e1 e2
          go_enter Tryd.func88, Tryd.ntmps88
          go_wp2_with fail
          refine CB.out.mono ?_
          rintro e w1 ⟨he, hb1⟩
          rw [if_pos trivial] at he
          subst he
          go_wp2_with fail
          go_ret2
          exact ⟨by rw [E.out.1, E.out.2]; rfl, hb1⟩
        · have hnn : norm s.data.toList = some (43 :: ds) := by rw [hn]; unfold fin2; rw [if_neg (by simp only []; omega)]; rfl
          obtain ⟨e1, e2⟩ := HS.out _ hnn
          have E := kept (And.intro e1 e2)
          have hcz : ¬ 9223372036854775807 < (⟨#[43]⟩ : ByteArray).size + (bOf ds).size := by have : (⟨#[43]⟩ : ByteArray).size = 1 := rfl; omega
          have hca : Kept ((⟨#[43]⟩ : ByteArray) ++ bOf ds = bOf (43 :: ds)) := ⟨by
            have : (⟨#[43]⟩ : ByteArray) = bOf [43] := rfl
            rw [this, bOf_app]; rfl⟩
          clear hn hnn HN HS e1 e2
          go_enter Tryd.func88, Tryd.ntmps88
          go_wp2_with fail
          refine CB.out.mono ?_
          rintro e w1 ⟨he, hb1⟩
          rw [if_pos trivial] at he
          subst he
          go_wp2_with fail
          go_ret2
          exact ⟨by rw [E.out.1, E.out.2, ← hca.out]; rfl, hb1⟩
    | false =>
      rw [hp] at CB HT
      have C0 := cutPrefix_any (bOf ds) ⟨#[48, 48]⟩
      obtain ⟨z1, z2⟩ := zz_false ds
      rw [data_bOf, show (⟨#[48, 48]⟩ : ByteArray).data.toList = [48, 48] from rfl, z1, z2] at C0
      have C0 : ∀ W : World, Calls Tryd.prog 116 #[.string (bOf ds), .string ⟨#[48, 48]⟩] W fun e w' => e = .returned (.tuple #[.string (bOf (zz false ds).2), .bool (zz false ds).1]) ∧ w' = W := C0
      have hzl : (zz false ds).2.length ≤ ds.length := by unfold zz; cases h : ([48, 48] : List UInt8).isPrefixOf ds <;> simp
      obtain ⟨q, hq⟩ : ∃ q, (zz false ds).1 = q := ⟨_, rfl⟩
      obtain ⟨d2, hd2⟩ : ∃ d2, (zz false ds).2 = d2 := ⟨_, rfl⟩
      have hn := HT.out q d2 rfl (by rw [← hq, ← hd2])
      rw [hq, hd2] at C0
      rw [hd2] at hzl
      have C0 := kept C0
      have hds2 := bOf_size d2
      clear hp HT z1 z2 hq hd2
      by_cases h3 : d2.length < 3
      · have hnn : norm s.data.toList = none := by rw [hn]; unfold fin2; rw [if_pos (.inl h3)]
        obtain ⟨e1, e2⟩ := HN.out hnn
        have E := kept (And.intro e1 e2)
        clear hn hnn HN HS e1 e2
        go_enter Tryd.func88, Tryd.ntmps88
        go_wp2_with fail
        refine CB.out.mono ?_
        rintro e w1 ⟨he, hb1⟩
        rw [if_pos trivial] at he
        subst he
        go_wp2_with fail
        refine (C0.out _).mono ?_
        rintro e w2 ⟨rfl, hw2⟩
        subst hw2
        go_wp2_with fail
        go_ret2
        exact ⟨by rw [E.out.1, E.out.2]; rfl, hb1⟩
      · by_cases h15 : 15 < d2.length
        · have hnn : norm s.data.toList = none := by rw [hn]; unfold fin2; rw [if_pos (.inr h15)]
          obtain ⟨e1, e2⟩ := HN.out hnn
          have E := kept (And.intro e1 e2)
          clear hn hnn HN HS e1 e2
          go_enter Tryd.func88, Tryd.ntmps88
          go_wp2_with fail
          refine CB.out.mono ?_
          rintro e w1 ⟨he, hb1⟩
          rw [if_pos trivial] at he
          subst he
          go_wp2_with fail
          refine (C0.out _).mono ?_
          rintro e w2 ⟨rfl, hw2⟩
          subst hw2
          go_wp2_with fail
          go_ret2
          exact ⟨by rw [E.out.1, E.out.2]; rfl, hb1⟩
        · have hnn : norm s.data.toList = some (if q then 43 :: d2 else d2) := by rw [hn]; unfold fin2; rw [if_neg (by simp only []; omega)]
          obtain ⟨e1, e2⟩ := HS.out _ hnn
          have E := kept (And.intro e1 e2)
          have hcz : ¬ 9223372036854775807 < (⟨#[43]⟩ : ByteArray).size + (bOf d2).size := by have : (⟨#[43]⟩ : ByteArray).size = 1 := rfl; omega
          have hca : Kept ((⟨#[43]⟩ : ByteArray) ++ bOf d2 = bOf (43 :: d2)) := ⟨by
            have : (⟨#[43]⟩ : ByteArray) = bOf [43] := rfl
            rw [this, bOf_app]; rfl⟩
          clear hn hnn HN HS e1 e2
          cases q with
          | true =>
            go_enter Tryd.func88, Tryd.ntmps88
            go_wp2_with fail
            refine CB.out.mono ?_
            rintro e w1 ⟨he, hb1⟩
            rw [if_pos trivial] at he
            subst he
            go_wp2_with fail
            refine (C0.out _).mono ?_
            rintro e w2 ⟨rfl, hw2⟩
            subst hw2
            go_wp2_with fail
            go_ret2
            exact ⟨by rw [E.out.1, E.out.2, if_pos trivial, ← hca.out]; rfl, hb1⟩
          | false =>
            go_enter Tryd.func88, Tryd.ntmps88
            go_wp2_with fail
            refine CB.out.mono ?_
            rintro e w1 ⟨he, hb1⟩
            rw [if_pos trivial] at he
            subst he
            go_wp2_with fail
            refine (C0.out _).mono ?_
            rintro e w2 ⟨rfl, hw2⟩
            subst hw2
            go_wp2_with fail
            go_ret2
            exact ⟨by rw [E.out.1, E.out.2, if_neg (by decide)]; rfl, hb1⟩
end Go.Proofs.YtfkfpanhbanljaaDoor.Phone
