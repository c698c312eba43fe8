/- The walks of layer 43, continued: Begins. -/
import Derived.Test.YtpimncboebggkaaDoorFoldTop
namespace Go.Proofs.YtpimncboebggkaaDoor.Fold
open Go.RowKit Go.Proofs.YtpimncboebggkaaDoor.Mem Go.Proofs.YtpimncboebggkaaDoor.Card Go.Proofs.YtpimncboebggkaaDoor.Laid
open Go.Lib hiding Kept

theorem below_chain {w w1 w2 : World} (h : Below w.heap.size w w1) (h2 : Below w1.heap.size w1 w2) : Below w.heap.size w w2 := h.trans (h2.mono h.size)
def beginsB (s h : ByteArray) : Bool := begins s.data.toList h.data.toList
theorem foldB_nil (s : ByteArray) : ((foldB s).toList == []) = (fold s.data.toList).isEmpty := by
  unfold foldB
  rw [bOf_toList]
  cases fold s.data.toList <;> rfl
theorem led_data (s : ByteArray) : ((⟨#[32]⟩ : ByteArray) ++ foldB s).data.toList = 32 :: fold s.data.toList := by
  have : (⟨#[32]⟩ : ByteArray) = bOf [32] := rfl
  unfold foldB
  rw [this, bOf_app, data_bOf]; rfl
theorem led_size (s : ByteArray) : ((⟨#[32]⟩ : ByteArray) ++ foldB s).size ≤ s.size + 1 := by
  have := foldB_size s
  have h1 : (⟨#[32]⟩ : ByteArray).size = 1 := rfl
  rw [ByteArray.size_append]
  omega
theorem begins_any (s h : ByteArray) (w : World) (hs : s.size ≤ 4294967000) (hh : h.size ≤ 4294967000) (hm : ML w) : Calls Tryd.prog 10 #[.string s, .string h] w fun e w' => e = .returned (.bool (beginsB s h)) ∧ Below w.heap.size w w' := by
  have C1 := kept (fold_any h w hh hm)
  have C2 := kept (fun (W : World) (hb : Below w.heap.size w W) => fold_any s W hs (hm.next hb))
  have h1 : (⟨#[32]⟩ : ByteArray).size = 1 := rfl
  have C3 := kept (fun (W : World) (hb : Below w.heap.size w W) => contains_any ((⟨#[32]⟩ : ByteArray) ++ foldB s) ((⟨#[32]⟩ : ByteArray) ++ foldB h) W (hm.next hb) (by have := led_size s; omega))
  have hz1 : ¬ 9223372036854775807 < (⟨#[32]⟩ : ByteArray).size + (foldB s).size := by have := foldB_size s; omega
  have hz2 : ¬ 9223372036854775807 < (⟨#[32]⟩ : ByteArray).size + (foldB h).size := by have := foldB_size h; omega
  rw [led_data, led_data] at C3
  have hB : Kept (beginsB s h = ((fold h.data.toList).isEmpty || contains (32 :: fold s.data.toList) (32 :: fold h.data.toList))) := ⟨rfl⟩
  have hN := foldB_nil h
  clear h1
  go_enter Tryd.func10, Tryd.ntmps10
  go_wp2_with fail
  refine C1.out.mono ?_
  rintro e w1 ⟨rfl, hb1⟩
  generalize contains (32 :: fold s.data.toList) (32 :: fold h.data.toList) = r at *
  cases hE : (fold h.data.toList).isEmpty with
  | true =>
    rw [hE] at hN
    have hN2 : (foldB h).toList = [] := by simpa using hN
    have HR : Kept (beginsB s h = true) := ⟨by rw [hB.out, hE]; rfl⟩
    clear hB C1 C2 C3 hE hN
    go_wp2_with fail
    go_ret
    exact ⟨by rw [HR.out]; rfl, hb1⟩
  | false =>
    rw [hE] at hN
    have hN2 : ¬ (foldB h).toList = [] := by simpa using hN
    have HR : Kept (beginsB s h = r) := ⟨by rw [hB.out, hE]; rfl⟩
    clear hB C1 hE
    go_wp2_with fail
    refine (C2.out _ hb1).mono ?_
    rintro e w2 ⟨rfl, hb2⟩
    have hb3 := below_chain hb1 hb2
    go_wp2_with fail
    refine (C3.out _ hb3).mono ?_
    rintro e w3 ⟨rfl, rfl⟩
    go_wp2_with fail
    go_ret
    exact ⟨by rw [HR.out]; rfl, hb3⟩
/-! the document's Begins -/
def eqAt (h l : List (List UInt8)) (j : Nat) : Bool := if j + 1 = h.length then (l.getD j []).take (h.getD j []).length == h.getD j [] else l.getD j [] == h.getD j []
def eqs (h l : List (List UInt8)) (k : Nat) : Bool := (List.range k).all (eqAt h l)
theorem eqs_zero (h l : List (List UInt8)) : eqs h l 0 = true := rfl
theorem eqs_succ (h l : List (List UInt8)) (k : Nat) : eqs h l (k + 1) = (eqs h l k && eqAt h l k) := by
  unfold eqs
  rw [List.range_succ, List.all_append]
  simp
theorem take_isPrefix : ∀ w v : List UInt8, (v.take w.length == w) = w.isPrefixOf v
  | [], v => by simp
  | c :: w, [] => by simp
  | c :: w, d :: v => by
    have ih := take_isPrefix w v
    simp only [List.length_cons, List.take_succ_cons, List.isPrefixOf]
    rw [← ih]
    by_cases h : d = c
    · subst h; simp
    · have h1 : (c == d) = false := by simpa using fun e => h e.symm
      simp [h1, h]
theorem eqs_cons (w v : List UInt8) (u : List UInt8) (h l : List (List UInt8)) (k : Nat) : eqs (w :: u :: h) (v :: l) (k + 1) = ((v == w) && eqs (u :: h) l k) := by
  have h0 : eqAt (w :: u :: h) (v :: l) 0 = (v == w) := by unfold eqAt; rw [if_neg (by simp)]; simp
  have h1 : (eqAt (w :: u :: h) (v :: l)) ∘ Nat.succ = eqAt (u :: h) l := by funext j; simp [eqAt]
  unfold eqs
  rw [List.range_succ_eq_map, List.all_cons, List.all_map, h0, h1]
theorem pre_eqs : ∀ (h l : List (List UInt8)), h ≠ [] → pre h l = (decide (h.length ≤ l.length) && eqs h l h.length)
  | [], _, hn => absurd rfl hn
  | [w], [], _ => by simp [pre]
  | w :: u :: h, [], _ => by simp [pre]
  | [w], v :: l, _ => by
    simp only [pre, ← take_isPrefix]
    simp [eqs, eqAt]
  | w :: u :: h, v :: l, _ => by
    have ih := pre_eqs (u :: h) l (by simp)
    simp only [pre]
    rw [ih]
    have e : (w :: u :: h).length = (u :: h).length + 1 := rfl
    rw [e, eqs_cons]
    have hd : decide ((u :: h).length + 1 ≤ (v :: l).length) = decide ((u :: h).length ≤ l.length) := decide_eq_decide.2 ⟨fun h => Nat.le_of_succ_le_succ h, fun h => Nat.succ_le_succ h⟩
    rw [hd]
    have hs : (w == v) = (v == w) := by rw [Bool.eq_iff_iff, beq_iff_eq, beq_iff_eq]; exact ⟨Eq.symm, Eq.symm⟩
    rw [hs]
    cases (v == w) <;> cases decide ((u :: h).length ≤ l.length) <;> rfl
theorem some_iff (h : List (List UInt8)) : ∀ l : List (List UInt8), some_ h l = true ↔ ∃ i, i ≤ l.length ∧ pre h (l.drop i) = true
  | [] => by simp [some_]
  | v :: l => by
    have ih := some_iff h l
    rw [some_, Bool.or_eq_true, ih]
    constructor
    · rintro (h1 | ⟨i, h1, h2⟩)
      · exact ⟨0, by simp, h1⟩
      · exact ⟨i + 1, by simp; omega, h2⟩
    · rintro ⟨i, h1, h2⟩
      cases i with
      | zero => exact .inl h2
      | succ i => exact .inr ⟨i, by simp at h1; omega, h2⟩
theorem bOf_extract (l : List UInt8) (k : Nat) : (bOf l).extract 0 k = bOf (l.take k) := by
  apply ByteArray.ext
  simp [bOf]
theorem wordsB_cell {w : World} {B : Nat} {A : Option Addr} {s : ByteArray} (h : Rd w B A (SB (wordsB s))) {k : Nat} (hk : k < (words s.data.toList).length) : ∃ b o, A = some ⟨b, o, none⟩ ∧ b < B ∧ w.cell? ⟨b, o + k, none⟩ = some (.string (bOf ((words s.data.toList).getD k []))) := by
  have := h.at_ (SB_get (wordsB s) k (by rw [wordsB_length]; exact hk))
  have e : (wordsB s).getD k ByteArray.empty = bOf ((words s.data.toList).getD k []) := by
    rw [wordsB_get (List.getElem?_eq_getElem hk)]
    simp [List.getD, hk]
  rwa [e] at this
theorem rbegins_any (s h : ByteArray) (w : World) (hs : s.size ≤ 4294967000) (hh : h.size ≤ 4294967000) : Calls Tryd.prog 22 #[.string s, .string h] w fun e w' => e = .returned (.bool (beginsB s h)) ∧ Below w.heap.size w w' := by
  have C1 := kept (rwords_any s w hs)
  have C2 := kept (fun (W : World) => rwords_any h W hh)
  have hls := wordsB_le s
  have hlh := wordsB_le h
  have HB : Kept (beginsB s h = ((words h.data.toList).isEmpty || some_ (words h.data.toList) (words s.data.toList))) := ⟨begins_words _ _⟩
  go_enter Tryd.func22, Tryd.ntmps22
  go_wp2_with fail
  refine C1.out.mono ?_
  rintro e w1 ⟨A1, c1, rfl, hown1, hc1, hb1⟩
  go_wp2_with fail
  refine (C2.out _).mono ?_
  rintro e w2 ⟨A2, c2, rfl, hown2, hc2, hb2⟩
  have hb3 := below_chain hb1 hb2
  have hr1 := (strE_rd.1 hown1.rd).next hb2
  have hr2 := strE_rd.1 hown2.rd
  have hrc1 := kept (fun k hk => wordsB_cell hr1 (k := k) hk)
  have hrc2 := kept (fun k hk => wordsB_cell hr2 (k := k) hk)
  rw [wordsB_length] at hls hlh
  rw [wordsB_length, wordsB_length]
  clear hown1 hown2 hr1 hr2 C1 C2 hc1 hc2 hb1 hb2
  generalize words s.data.toList = ws at *
  generalize words h.data.toList = hs' at *
  obtain ⟨n, hn⟩ : ∃ n, ws.length = n := ⟨_, rfl⟩
  obtain ⟨m, hm⟩ : ∃ m, hs'.length = m := ⟨_, rfl⟩
  rw [hn] at hrc1 hls ⊢
  rw [hm] at hrc2 hlh ⊢
  have HN := kept hn
  have HM := kept hm
  clear hn hm
  by_cases h0 : m = 0
  · subst h0
    have HR : Kept (beginsB s h = true) := ⟨by rw [HB.out, List.eq_nil_of_length_eq_zero HM.out]; rfl⟩
    go_wp2_with fail
    go_ret
    exact ⟨by rw [HR.out]; rfl, hb3⟩
  · have hne : hs' ≠ [] := by intro e; have := HM.out; rw [e] at this; simp at this; omega
    have HR : Kept (beginsB s h = some_ hs' ws) := ⟨by rw [HB.out]; cases hs' with | nil => exact absurd rfl hne | cons _ _ => rfl⟩
    have HP := kept (fun i => pre_eqs hs' (ws.drop i) hne)
    have hmpos : 0 < m := by omega
    have hm0 : ((m : Int) == 0) = false := by simp; omega
    clear HB hne h0
    go_wp2_with fail
    go_loop [7, 8, 9, 10] (fun i _ _ _ => ∃ j : Nat, j ≤ n + 1 ∧ i = .int .i64 (j : Int) ∧ Kept (∀ i, i < j → pre hs' (ws.drop i) = false)) (fun i _ _ _ => n + 1 - (intOf i).toNat)
    case atStart => exact ⟨0, Nat.zero_le _, rfl, ⟨fun i hi => absurd hi (Nat.not_lt_zero _)⟩⟩
    case round =>
      obtain ⟨j, hj, rfl, hno⟩ := hrel
      by_cases hin : j + m ≤ n
      · have hpj : Kept (pre hs' (ws.drop j) = eqs hs' (ws.drop j) m) := ⟨by rw [HP.out, HM.out, List.length_drop, HN.out, decide_eq_true (by omega)]; rfl⟩
        have hin2 : (j : Int) + (m : Int) ≤ (n : Int) := by omega
        go_wp2_with fail
        go_loop [8, 9, 10] (fun b i _ => ∃ k : Nat, k ≤ m ∧ i = .int .i64 (k : Int) ∧ b = .bool (eqs hs' (ws.drop j) k)) (fun _ i _ => m - (intOf i).toNat)
        case atStart => exact ⟨0, Nat.zero_le _, rfl, rfl⟩
        case round =>
          obtain ⟨k, hk, rfl, rfl⟩ := hrel
          by_cases hlt : k < m
          · have hwl : j + k < ws.length := by rw [HN.out]; omega
            obtain ⟨b1, o1, rfl, hbb1, hcell1⟩ := hrc1.out (j + k) (by omega)
            obtain ⟨b2, o2, rfl, hbb2, hcell2⟩ := hrc2.out k hlt
            have hx : eqs hs' (ws.drop j) (k + 1) = (eqs hs' (ws.drop j) k && eqAt hs' (ws.drop j) k) := eqs_succ _ _ _
            have hv : (ws.drop j).getD k [] = ws.getD (j + k) [] := by simp [List.getD]
            obtain ⟨v, hvv⟩ : ∃ v, ws.getD (j + k) [] = v := ⟨_, rfl⟩
            obtain ⟨x, hxx⟩ : ∃ x, hs'.getD k [] = x := ⟨_, rfl⟩
            have he : eqAt hs' (ws.drop j) k = if k + 1 = m then v.take x.length == x else v == x := by unfold eqAt; rw [hv, hvv, hxx, HM.out]
            rw [hvv] at hcell1
            rw [hxx] at hcell2
            rw [he] at hx
            have hjk : (0 : Int) ≤ (j : Int) + (k : Int) := by omega
            have hjkn : (j : Int) + (k : Int) < (n : Int) := by omega
            have hvs : (bOf v).size = v.length := bOf_size v
            have hxs : (bOf x).size = x.length := bOf_size x
            have hvx : (bOf v).extract 0 x.length = bOf (v.take x.length) := bOf_extract v _
            have hb1 := bOf_toList v
            have hb2 := bOf_toList x
            have hb3' := bOf_toList (v.take x.length)
            clear hv hvv hxx he hwl
            by_cases hkm : k + 1 = m
            · rw [if_pos hkm] at hx
              have hk2 : ((k : Int) == (m : Int) - 1) = true := by simp; omega
              clear hkm
              have HX := kept hx
              have HV : Kept (¬ x.length < v.length → v.take x.length = v) := ⟨fun h => List.take_of_length_le (by omega)⟩
              clear hx
              go_wp2_with fail
              · have h1 : eqs hs' (ws.drop j) k = true := by assumption
                go_round
                case rel => exact ⟨k + 1, by omega, by go_num, by rw [HX.out, h1]; rfl⟩
                case measure => simp [intOf]; omega
              · have h1 : eqs hs' (ws.drop j) k = false := Bool.eq_false_iff.2 (by assumption)
                go_round
                case rel => exact ⟨k + 1, by omega, by go_num, by rw [HX.out, h1]; rfl⟩
                case measure => simp [intOf]; omega
              · have h1 : eqs hs' (ws.drop j) k = true := by assumption
                have h2 : ¬ x.length < v.length := by assumption
                go_round
                case rel => exact ⟨k + 1, by omega, by go_num, by rw [HX.out, h1, HV.out h2]; rfl⟩
                case measure => simp [intOf]; omega
              · have h1 : eqs hs' (ws.drop j) k = false := Bool.eq_false_iff.2 (by assumption)
                go_round
                case rel => exact ⟨k + 1, by omega, by go_num, by rw [HX.out, h1]; rfl⟩
                case measure => simp [intOf]; omega
            · rw [if_neg hkm] at hx
              have hk2 : ((k : Int) == (m : Int) - 1) = false := by simp; omega
              have HX := kept hx
              clear hx hkm
              go_wp2_with fail
              · have h1 : eqs hs' (ws.drop j) k = true := by assumption
                go_round
                case rel => exact ⟨k + 1, by omega, by go_num, by rw [HX.out, h1]; rfl⟩
                case measure => simp [intOf]; omega
              · have h1 : eqs hs' (ws.drop j) k = false := Bool.eq_false_iff.2 (by assumption)
                go_round
                case rel => exact ⟨k + 1, by omega, by go_num, by rw [HX.out, h1]; rfl⟩
                case measure => simp [intOf]; omega
          · obtain rfl : k = m := by omega
            cases hE : eqs hs' (ws.drop j) k with
            | true =>
              have HS : Kept (some_ hs' ws = true) := ⟨(some_iff hs' ws).2 ⟨j, by rw [HN.out]; omega, by rw [hpj.out, hE]⟩⟩
              clear hE hpj
              go_wp2_with fail
              go_ret
              exact ⟨by rw [HR.out, HS.out]; rfl, hb3⟩
            | false =>
              have hno2 : Kept (∀ i, i < j + 1 → pre hs' (ws.drop i) = false) := ⟨fun i hi => by
                rcases Nat.lt_or_ge i j with h1 | h1
                · exact hno.out i h1
                · obtain rfl : i = j := by omega
                  rw [hpj.out, hE]⟩
              clear hE hpj
              go_wp2_with fail
              go_round
              case rel => exact ⟨j + 1, by omega, by go_num, hno2⟩
              case measure => simp [intOf]; omega
      · have HS : Kept (some_ hs' ws = false) := ⟨by
          cases hb : some_ hs' ws with
          | false => rfl
          | true =>
            obtain ⟨i, h1, h2⟩ := (some_iff hs' ws).1 hb
            rcases Nat.lt_or_ge i j with h3 | h3
            · rw [hno.out i h3] at h2; cases h2
            · rw [HP.out, HM.out, List.length_drop, HN.out, decide_eq_false (by omega)] at h2; cases h2⟩
        have hin2 : ¬ (j : Int) + (m : Int) ≤ (n : Int) := by omega
        go_wp2_with fail
        go_ret
        exact ⟨by rw [HR.out, HS.out]; rfl, hb3⟩
end Go.Proofs.YtpimncboebggkaaDoor.Fold
