/- The laws of layer 43, continued: FoldBegins. -/
import Derived.Test.YtpimncboebggkaaDoorFoldOrder
namespace Go.Proofs.YtpimncboebggkaaDoor.Fold
open Go.RowKit Go.Proofs.YtpimncboebggkaaDoor.Mem Go.Proofs.YtpimncboebggkaaDoor.Card Go.Proofs.YtpimncboebggkaaDoor.Laid
open Go.Lib hiding Kept

theorem Good.take {x : List UInt8} (h : Good x) (m : Nat) (hn : x.take m ≠ []) : Good (x.take m) := ⟨hn, fun c hc => h.2 c (List.mem_of_mem_take hc)⟩
theorem words_one {x : List UInt8} (h : Good x) : words x = [x] := by
  have := words_join [x] (fun y hy => by rcases List.mem_singleton.1 hy with rfl; exact h)
  rwa [join_one] at this
theorem words_two {x y : List UInt8} (h : Good x) (h2 : Good y) : words (x ++ 32 :: y) = [x, y] := by
  have := words_join [x, y] (fun z hz => by rcases List.mem_cons.1 hz with rfl | hz; exact h; rcases List.mem_singleton.1 hz with rfl; exact h2)
  rwa [join_cons, joinTail_led, show led [y] = 32 :: y by simp [led]] at this
theorem words_blank {x : List UInt8} (h : Good x) : words (x ++ [32]) = [x] := by
  unfold words
  have hm : (x ++ [32]).map letter = x ++ [32] := map_same fun c hc => by
    rcases List.mem_append.1 hc with hc | hc
    · exact (h.2 c hc).1
    · rcases List.mem_singleton.1 hc with rfl; decide
  rw [hm, splitS_word x [32] fun c hc => (h.2 c hc).2]
  have : splitS [32] = [[], []] := by decide
  rw [this]
  simp only [glue, List.append_nil]
  rw [List.filter_cons_of_pos ((full_iff x).2 h.1)]
  rfl
theorem prefix_take (x : List UInt8) (m : Nat) : (x.take m).isPrefixOf x = true := by
  rw [List.isPrefixOf_iff_prefix]
  exact List.take_prefix m x
theorem some_at {h l : List (List UInt8)} {i : Nat} (hi : i ≤ l.length) (hp : pre h (l.drop i) = true) : some_ h l = true := (some_iff h l).2 ⟨i, hi, hp⟩
theorem begins_none {s h : List UInt8} (hh : words h = []) : begins s h = true := by rw [begins_words, hh]; rfl
theorem begins_some {s h : List UInt8} (hs : some_ (words h) (words s) = true) : begins s h = true := by rw [begins_words, hs, Bool.or_true]
/-- a beginning of a word -/
theorem begins_word {s x : List UInt8} {k m : Nat} (hk : (words s)[k]? = some x) : begins s (x.take m) = true := by
  have hg := words_good s x (List.mem_of_getElem? hk)
  obtain ⟨hlt, hx⟩ := List.getElem?_eq_some_iff.1 hk
  by_cases h0 : x.take m = []
  · rw [h0]; exact begins_none rfl
  · refine begins_some (some_at (i := k) (Nat.le_of_lt hlt) ?_)
    rw [words_one (hg.take m h0), List.drop_eq_getElem_cons hlt, hx]
    exact prefix_take x m
/-- a word, and a beginning of the next one -/
theorem begins_next {s u x : List UInt8} {k m : Nat} (hu : (words s)[k]? = some u) (hk : (words s)[k + 1]? = some x) : begins s (u ++ 32 :: x.take m) = true := by
  have hg := words_good s x (List.mem_of_getElem? hk)
  have hg2 := words_good s u (List.mem_of_getElem? hu)
  obtain ⟨hlt, hx⟩ := List.getElem?_eq_some_iff.1 hk
  obtain ⟨hlt2, hx2⟩ := List.getElem?_eq_some_iff.1 hu
  refine begins_some (some_at (i := k) (Nat.le_of_lt hlt2) ?_)
  rw [List.drop_eq_getElem_cons hlt2, hx2]
  by_cases h0 : x.take m = []
  · rw [h0, words_blank hg2]
    show u.isPrefixOf u = true
    rw [List.isPrefixOf_iff_prefix]
    exact List.prefix_refl u
  · rw [words_two hg2 (hg.take m h0), List.drop_eq_getElem_cons hlt, hx]
    simp only [pre, beq_self_eq_true, Bool.true_and]
    exact prefix_take x m
theorem pre_self : ∀ l : List (List UInt8), pre l l = true
  | [] => rfl
  | [w] => by
    show w.isPrefixOf w = true
    rw [List.isPrefixOf_iff_prefix]; exact List.prefix_refl w
  | w :: u :: l => by
    simp only [pre, beq_self_eq_true, Bool.true_and]
    exact pre_self (u :: l)
theorem begins_fold (s : List UInt8) : begins s (fold s) = true := by
  refine begins_some (some_at (i := 0) (Nat.zero_le _) ?_)
  rw [words_fold]
  exact pre_self _
theorem join_last (z : List UInt8) (r : List (List UInt8)) (w : List UInt8) : Lib.join (r ++ [w ++ z]) [32] = Lib.join (r ++ [w]) [32] ++ z := by
  cases r with
  | nil => simp [join_one]
  | cons v r =>
    rw [List.cons_append, List.cons_append, join_cons, join_cons]
    simp [joinTail]
theorem begins_more {s : List UInt8} (hn : words s ≠ []) : begins s (fold s ++ [120]) = false := by
  have hg := words_good s
  obtain ⟨r, w, hrw⟩ : ∃ r w, words s = r ++ [w] := ⟨(words s).dropLast, (words s).getLast hn, (List.dropLast_concat_getLast hn).symm⟩
  rw [hrw] at hg
  have hgw := hg w (by simp)
  have hw' : ∀ x ∈ r ++ [w ++ [120]], Good x := fun x hx => by
    rcases List.mem_append.1 hx with hx | hx
    · exact hg x (List.mem_append_left _ hx)
    · rcases List.mem_singleton.1 hx with rfl
      refine ⟨by simp, fun c hc => ?_⟩
      rcases List.mem_append.1 hc with hc | hc
      · exact hgw.2 c hc
      · rcases List.mem_singleton.1 hc with rfl; decide
  have hf : fold s ++ [120] = Lib.join (r ++ [w ++ [120]]) [32] := by rw [join_last, ← hrw]; rfl
  have hff : fold (fold s ++ [120]) = fold s ++ [120] := by
    show Lib.join (words (fold s ++ [120])) [32] = _
    rw [hf, words_join _ hw']
  unfold begins
  rw [hff]
  have h1 : (fold s ++ [120]).isEmpty = false := by simp
  rw [h1, Bool.false_or]
  unfold contains
  rw [decide_eq_false_iff_not]
  intro h
  have := index_room _ _ h
  simp at this
  omega
theorem each_law (s : ByteArray) (a b : Nat) (w : World) (hm : ML w) (hs : s.size ≤ 1048576) (ha : a < 256) (hb : b < 256) : Calls Tryd.prog 3 #[.string s, .int .u8 (a : Int), .int .u8 (b : Int)] w fun e w' => e = .returned (.bool true) ∧ Below w.heap.size w w' := by
  have W0 := kept (fun (W : World) (h : Below w.heap.size w W) => works_any W (hm.next h))
  have K1 := kept (fun (W : World) (h : Below w.heap.size w W) => fold_any s W (by omega) (hm.next h))
  have K2 := kept (fun (W : World) (h : Below w.heap.size w W) => words_any s W (by omega) (hm.next h))
  have KB := kept (fun (W : World) (h : Below w.heap.size w W) (x : ByteArray) (hx : x.size ≤ 4294967000) => begins_any s x W (by omega) hx (hm.next h))
  have hwl := wordsB_le s
  have hfs := foldB_size s
  go_enter Tryd.func3, Tryd.ntmps3
  go_wp2_with fail
  refine (K1.out _ (Below.refl _ _)).mono ?_
  rintro e w1 ⟨rfl, hb1⟩
  go_wp2_with fail
  refine (K2.out _ hb1).mono ?_
  rintro e w2 ⟨A, c, rfl, hown, hc, hb2⟩
  have hrd := kept (fun k hk => wordsB_cell (strE_rd.1 hown.rd) (k := k) hk)
  have hb2 := below_chain hb1 hb2
  rw [wordsB_length] at hwl hc ⊢
  clear hown hb1
  obtain ⟨n, hn⟩ : ∃ n, (words s.data.toList).length = n := ⟨_, rfl⟩
  rw [hn] at hwl hc hrd ⊢
  by_cases h0 : n = 0
  · subst h0
    have hnil : words s.data.toList = [] := List.eq_nil_of_length_eq_zero hn
    have hf : (foldB s).toList = [] := by unfold foldB fold; rw [hnil, bOf_toList]; rfl
    have hB1 : beginsB s ⟨#[]⟩ = true := begins_none rfl
    have hB2 : beginsB s ⟨#[32, 45, 32]⟩ = true := begins_none (by decide)
    have C1 := fun (W : World) h => KB.out W h ⟨#[]⟩ (by decide)
    have C2 := fun (W : World) h => KB.out W h ⟨#[32, 45, 32]⟩ (by decide)
    rw [hB1] at C1
    rw [hB2] at C2
    have C1 := kept C1
    have C2 := kept C2
    clear hB1 hB2 hnil hn K1 K2 KB
    go_wp2_with fail
    refine (C1.out _ hb2).mono ?_
    rintro e w3 ⟨rfl, hb3⟩
    have hb3 := below_chain hb2 hb3
    go_wp2_with fail
    refine (C2.out _ hb3).mono ?_
    rintro e w4 ⟨rfl, hb4⟩
    have hb4 := below_chain hb3 hb4
    go_wp2_with fail
    refine (W0.out _ hb4).mono ?_
    rintro e w5 ⟨rfl, hb5⟩
    have hb5 := below_chain hb4 hb5
    go_wp2_with fail
    go_ret
    exact ⟨rfl, hb5⟩
  · have hkn : a % n < n := Nat.mod_lt _ (by omega)
    have hki : (a : Int) % (n : Int) = ((a % n : Nat) : Int) := by simp
    generalize a % n = k at hkn hki
    obtain ⟨x, hx⟩ : ∃ x, (words s.data.toList)[k]? = some x := ⟨_, List.getElem?_eq_getElem (by rw [hn]; exact hkn)⟩
    have hxD : (words s.data.toList).getD k [] = x := by simp [List.getD, hx]
    have hxl : x.length ≤ 1048576 := by
      have h1 := words_lens s.data.toList
      have h2 : x.length ≤ lens (words s.data.toList) := by
        have := lens_take_le (words s.data.toList) (k + 1)
        rw [lens_take_succ _ _ _ hx] at this
        omega
      simp at h1
      omega
    have hmn : b % (x.length + 1) < x.length + 1 := Nat.mod_lt _ (by omega)
    have hmi : (b : Int) % ((x.length : Int) + 1) = ((b % (x.length + 1) : Nat) : Int) := by simp
    generalize b % (x.length + 1) = m at hmn hmi
    have hxs : (bOf x).size = x.length := bOf_size x
    have hxe : (bOf x).extract 0 m = bOf (x.take m) := bOf_extract x m
    have hne : words s.data.toList ≠ [] := by intro e; rw [e] at hn; simp at hn; omega
    have hF1 : beginsB s (foldB s) = true := by unfold beginsB foldB; rw [data_bOf]; exact begins_fold _
    have hF2 : beginsB s (foldB s ++ ⟨#[120]⟩) = false := by
      unfold beginsB foldB
      have : (⟨#[120]⟩ : ByteArray) = bOf [120] := rfl
      rw [this, bOf_app, data_bOf]
      exact begins_more hne
    have C2 := fun (W : World) h => KB.out W h (foldB s) (by omega)
    have C3 := fun (W : World) h => KB.out W h (foldB s ++ ⟨#[120]⟩) (by rw [ByteArray.size_append]; have : (⟨#[120]⟩ : ByteArray).size = 1 := rfl; omega)
    rw [hF1] at C2
    rw [hF2] at C3
    have C2 := kept C2
    have C3 := kept C3
    have hz3 : ¬ 9223372036854775807 < (foldB s).size + (⟨#[120]⟩ : ByteArray).size := by have : (⟨#[120]⟩ : ByteArray).size = 1 := rfl; omega
    obtain ⟨b1, o1, hA, hbb, hcell⟩ := hrd.out k hkn
    rw [hxD] at hcell
    have hn0 : ((n : Int) == 0) = false := by simp; omega
    have hn1 : (0 : Int) < (n : Int) := by omega
    have hN := kept hn
    have hX := kept hx
    by_cases hk0 : k = 0
    · subst hk0
      have hB1 : beginsB s (bOf (x.take m)) = true := by unfold beginsB; rw [data_bOf]; exact begins_word hx
      have C1 := fun (W : World) h => KB.out W h (bOf (x.take m)) (by rw [bOf_size]; have := List.length_take_le m x; omega)
      rw [hB1] at C1
      have C1 := kept C1
      rw [Nat.add_zero] at hcell
      subst hA
      have hki0 : (a : Int) % (n : Int) = 0 := by simpa using hki
      clear hB1 hF1 hF2 hne hn hx hxD K1 K2 KB hN hX hki
      go_wp2_with fail
      refine (C1.out _ hb2).mono ?_
      rintro e w3 ⟨rfl, hb3⟩
      have hb3 := below_chain hb2 hb3
      go_wp2_with fail
      refine (C2.out _ hb3).mono ?_
      rintro e w4 ⟨rfl, hb4⟩
      have hb4 := below_chain hb3 hb4
      go_wp2_with fail
      refine (C3.out _ hb4).mono ?_
      rintro e w5 ⟨rfl, hb5⟩
      have hb5 := below_chain hb4 hb5
      go_wp2_with fail
      refine (W0.out _ hb5).mono ?_
      rintro e w6 ⟨rfl, hb6⟩
      have hb6 := below_chain hb5 hb6
      go_wp2_with fail
      go_ret
      exact ⟨rfl, hb6⟩
    · obtain ⟨j, rfl⟩ : ∃ j, k = j + 1 := ⟨k - 1, by omega⟩
      obtain ⟨u, hu⟩ : ∃ u, (words s.data.toList)[j]? = some u := ⟨_, List.getElem?_eq_getElem (by rw [hn]; omega)⟩
      have huD : (words s.data.toList).getD j [] = u := by simp [List.getD, hu]
      have hul : u.length ≤ 1048576 := by
        have h1 := words_lens s.data.toList
        have h2 : u.length ≤ lens (words s.data.toList) := by
          have := lens_take_le (words s.data.toList) (j + 1)
          rw [lens_take_succ _ _ _ hu] at this
          omega
        simp at h1
        omega
      obtain ⟨b2, o2, hA2, _, hcell2⟩ := hrd.out j (by omega)
      rw [huD] at hcell2
      subst hA
      obtain rfl : b1 = b2 := congrArg Addr.block (Option.some.inj hA2)
      obtain rfl : o1 = o2 := congrArg Addr.off (Option.some.inj hA2)
      clear hA2
      have hus := bOf_size u
      have hms : (bOf (x.take m)).size ≤ 1048576 := by rw [bOf_size]; have := List.length_take_le m x; omega
      have h1 : (⟨#[32]⟩ : ByteArray).size = 1 := rfl
      have hz4 : ¬ 9223372036854775807 < (bOf u).size + (⟨#[32]⟩ : ByteArray).size := by omega
      have hz5 : ¬ 9223372036854775807 < (bOf u ++ (⟨#[32]⟩ : ByteArray)).size + (bOf (x.take m)).size := by rw [ByteArray.size_append]; omega
      have hB1 : beginsB s (bOf u ++ (⟨#[32]⟩ : ByteArray) ++ bOf (x.take m)) = true := by
        have e : (⟨#[32]⟩ : ByteArray) = bOf [32] := rfl
        unfold beginsB
        rw [e, bOf_app, bOf_app, data_bOf, List.append_assoc]
        exact begins_next hu hx
      have C1 := fun (W : World) h => KB.out W h (bOf u ++ (⟨#[32]⟩ : ByteArray) ++ bOf (x.take m)) (by rw [ByteArray.size_append, ByteArray.size_append]; omega)
      rw [hB1] at C1
      have C1 := kept C1
      have hki0 : (a : Int) % (n : Int) = (j : Int) + 1 := by simpa using hki
      have hj0 : (0 : Int) ≤ (j : Int) := by omega
      have hj1 : (j : Int) + 1 < (n : Int) := by omega
      have hj2 : (j : Int) < (n : Int) := by omega
      clear hB1 hF1 hF2 hne hn hx hxD K1 K2 KB hN hX hki hu huD hms h1 hus hul
      go_wp2_with fail
      refine (C1.out _ hb2).mono ?_
      rintro e w3 ⟨rfl, hb3⟩
      have hb3 := below_chain hb2 hb3
      go_wp2_with fail
      refine (C2.out _ hb3).mono ?_
      rintro e w4 ⟨rfl, hb4⟩
      have hb4 := below_chain hb3 hb4
      go_wp2_with fail
      refine (C3.out _ hb4).mono ?_
      rintro e w5 ⟨rfl, hb5⟩
      have hb5 := below_chain hb4 hb5
      go_wp2_with fail
      refine (W0.out _ hb5).mono ?_
      rintro e w6 ⟨rfl, hb6⟩
      have hb6 := below_chain hb5 hb6
      go_wp2_with fail
      go_ret
      exact ⟨rfl, hb6⟩
end Go.Proofs.YtpimncboebggkaaDoor.Fold
