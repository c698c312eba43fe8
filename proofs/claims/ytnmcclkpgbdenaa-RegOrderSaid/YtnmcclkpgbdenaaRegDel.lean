/- Layer 14 (reg): slices.IndexFunc, DeleteFunc of texts that are one text. -/
import Derived.Test.YtnmcclkpgbdenaaRegTexts
import Derived.Test.YtnmcclkpgbdenaaClear
import Derived.Test.YtnmcclkpgbdenaaCardLine
namespace Go.Proofs.Ytnmcclkpgbdenaa.Reg
open Go.RowKit Go.Proofs.Ytnmcclkpgbdenaa.Mem Go.Proofs.Ytnmcclkpgbdenaa.Card Go.Proofs.Ytnmcclkpgbdenaa.LaidS

def isT (s x : ByteArray) : Bool := x.toList == s.toList
theorem sclo_any (x s : ByteArray) (g : Nat) (w : World) (hc : w.cell? ⟨g, 2, none⟩ = some (.string s)) :
    Calls Try.prog 57 #[.string x, .pointer (some ⟨g, 0, none⟩)] w fun e w' => e = .returned (.bool (isT s x)) ∧ w = w' := by
  unfold isT
  go_enter Try.func57, Try.ntmps57
  go_wp2
  go_ret
  exact ⟨rfl, rfl⟩
theorem strE_get {w : World} {B : Nat} {A : Option Addr} {l : List ByteArray} (h : strE.Rd w B A l) {i : Nat} {x : ByteArray} (hi : l[i]? = some x) : ∃ b o, A = some ⟨b, o, none⟩ ∧ b < B ∧ w.cell? ⟨b, o + i, none⟩ = some (.string x) := by
  obtain ⟨b, o, e, hb, hc⟩ := h.at_ hi
  refine ⟨b, o, e, hb, ?_⟩
  have := hc 0 _ rfl
  rw [show i * strE.k + 0 = i from Nat.mul_one i] at this
  exact this
theorem sidx_at (A : Option Addr) (n c : Nat) (l : List ByteArray) (s : ByteArray) (g k0 : Nat) (x0 : ByteArray) (w : World) (hn : n = l.length) (hr : strE.Rd w w.heap.size A l) (hc : w.cell? ⟨g, 2, none⟩ = some (.string s))
    (hk0 : l[k0]? = some x0) (hx0 : isT s x0 = true) (hbef : ∀ (j : Nat) y, j < k0 → l[j]? = some y → isT s y = false) (hsz : l.length ≤ 9223372036854775807) :
    Calls Try.prog 89 #[.slice A n c, .func (.func 57) #[] #[.pointer (some ⟨g, 0, none⟩)]] w fun e w' => e = .returned (.int .i64 (k0 : Int)) ∧ w = w' := by
  subst hn
  have hlt0 := (List.getElem?_eq_some_iff.1 hk0).1
  have HC := kept hc
  have HR := kept hr
  clear hc hr
  go_enter Try.func89, Try.ntmps89
  go_wp2
  go_loopw [8] (fun i wr => ∃ k : Nat, k ≤ k0 ∧ i = .int .i64 (k : Int) ∧ w = wr) (fun i _ => l.length - (intOf i).toNat)
  case atStart => exact ⟨0, Nat.zero_le _, rfl, rfl⟩
  case round =>
    obtain ⟨k, hk, rfl, rfl⟩ := hrel
    have hlt : k < l.length := by omega
    obtain ⟨x, hx⟩ : ∃ x, l[k]? = some x := ⟨_, List.getElem?_eq_getElem hlt⟩
    obtain ⟨b, o, rfl, hbb, hx1⟩ := strE_get HR.out hx
    have hcc := kept (sclo_any x s g w HC.out)
    by_cases he : k = k0
    · subst he
      obtain rfl : x = x0 := Option.some.inj (hx.symm.trans hk0)
      rw [hx0] at hcc
      clear hx hx0 hbef hk0
      go_wp2_with fail
      refine hcc.out.mono ?_
      rintro e w1 ⟨rfl, rfl⟩
      go_wp2
      go_ret
      exact ⟨rfl, rfl⟩
    · have hf := hbef k x (by omega) hx
      rw [hf] at hcc
      clear hx hf
      go_wp2_with fail
      refine hcc.out.mono ?_
      rintro e w1 ⟨rfl, rfl⟩
      go_wp2
      go_roundw
      case rel => exact ⟨k + 1, by omega, by go_num, trivial⟩
      case measure => simp [intOf]; omega
theorem sidx_none (A : Option Addr) (n c : Nat) (l : List ByteArray) (s : ByteArray) (g : Nat) (w : World) (hn : n = l.length) (hr : strE.Rd w w.heap.size A l) (hc : w.cell? ⟨g, 2, none⟩ = some (.string s))
    (hbef : ∀ (j : Nat) y, l[j]? = some y → isT s y = false) (hsz : l.length ≤ 9223372036854775807) :
    Calls Try.prog 89 #[.slice A n c, .func (.func 57) #[] #[.pointer (some ⟨g, 0, none⟩)]] w fun e w' => e = .returned (.int .i64 (-1)) ∧ w = w' := by
  subst hn
  have HC := kept hc
  have HR := kept hr
  clear hc hr
  go_enter Try.func89, Try.ntmps89
  go_wp2
  go_loopw [8] (fun i wr => ∃ k : Nat, k ≤ l.length ∧ i = .int .i64 (k : Int) ∧ w = wr) (fun i _ => l.length - (intOf i).toNat)
  case atStart => exact ⟨0, Nat.zero_le _, rfl, rfl⟩
  case round =>
    obtain ⟨k, hk, rfl, rfl⟩ := hrel
    by_cases hlt : k < l.length
    · obtain ⟨x, hx⟩ : ∃ x, l[k]? = some x := ⟨_, List.getElem?_eq_getElem hlt⟩
      obtain ⟨b, o, rfl, hbb, hx1⟩ := strE_get HR.out hx
      have hcc := kept (sclo_any x s g w HC.out)
      rw [hbef k x hx] at hcc
      clear hx
      go_wp2_with fail
      refine hcc.out.mono ?_
      rintro e w1 ⟨rfl, rfl⟩
      go_wp2
      go_roundw
      case rel => exact ⟨k + 1, by omega, by go_num, trivial⟩
      case measure => simp [intOf]; omega
    · go_wp2
      go_ret
      exact ⟨rfl, rfl⟩
def noT (s : ByteArray) (l : List ByteArray) : List ByteArray := l.filter fun x => !(isT s x)
set_option maxRecDepth 100000 in
set_option maxHeartbeats 1000000 in
theorem sdel_any (base : Nat) (A : Option Addr) (c : Nat) (l : List ByteArray) (s : ByteArray) (g : Nat) (w : World) (h : strE.Own w base 9 (.slice A l.length c) l) (hc : w.cell? ⟨g, 2, none⟩ = some (.string s)) (hg : g < base) (hbs : base ≤ w.heap.size) (hsz : l.length ≤ 1000000000) :
    Calls Try.prog 56 #[.slice A l.length c, .func (.func 57) #[] #[.pointer (some ⟨g, 0, none⟩)]] w fun e w' =>
      ∃ A' c', e = .returned (.slice A' (noT s l).length c') ∧ strE.Own w' base 9 (.slice A' (noT s l).length c') (noT s l) ∧ Below base w w' := by
  rcases find_cases (isT s) l with ⟨-, hn⟩ | ⟨k0, x0, hk0, -, hx0, hbef⟩
  · have CI := kept (sidx_none A l.length c l s g w rfl h.rd hc hn (by omega))
    have HF : Kept (noT s l = l) := ⟨List.filter_eq_self.2 fun x hx => by
      obtain ⟨j, hj⟩ := List.getElem?_of_mem hx
      rw [hn j x hj]; rfl⟩
    have HO := kept h
    clear h hc hn
    go_enter Try.func56, Try.ntmps56
    go_wp2_with fail
    refine CI.out.mono ?_
    rintro e w1 ⟨rfl, rfl⟩
    go_wp2_with fail
    go_ret
    exact ⟨A, c, by rw [HF.out]; rfl, by rw [HF.out]; exact HO.out, Below.refl _ _⟩
  · have CI := kept (sidx_at A l.length c l s g k0 x0 w rfl h.rd hc hk0 hx0 hbef (by omega))
    have hlt0 := (List.getElem?_eq_some_iff.1 hk0).1
    have hcap : l.length ≤ c := h.cap
    obtain ⟨r, rfl, hbr, hrw, -, -, -⟩ := h.spot (i := k0) (j := 0) hk0 rfl
    have HNO : Kept (∀ q : List ByteArray, noT s q = q.filter fun x => !(isT s x)) := ⟨fun _ => rfl⟩
    have h0 : l.take k0 = noT s (l.take (k0 + 1)) := by
      rw [HNO.out, filter_snoc (fun x => !(isT s x)) hk0, hx0]
      have : (l.take k0).filter (fun x => !(isT s x)) = l.take k0 := List.filter_eq_self.2 fun x hx => by
        obtain ⟨j, hj⟩ := List.getElem?_of_mem hx
        rw [List.getElem?_take] at hj
        split at hj
        · rw [hbef j x (by assumption) hj]; rfl
        · cases hj
      rw [this]; simp
    have H0 := kept h0
    have HO := kept h
    have HC := kept hc
    have hkm : ((k0 : Int) == -1) = false := by rw [beq_eq_false_iff_ne]; omega
    clear h hc hbef hk0 hx0 h0
    go_enter Try.func56, Try.ntmps56
    go_wp2_with fail
    refine CI.out.mono ?_
    rintro e w1 ⟨rfl, rfl⟩
    clear CI
    go_wp2_with fail
    go_loopw [5, 6] (fun iv jv wr => ∃ (i j : Nat) (cur : List ByteArray), k0 < j ∧ j ≤ l.length ∧ i < j ∧ iv = .int .i64 (i : Int) ∧ jv = .int .i64 (j : Int) ∧ Kept (cur.take i = noT s (l.take j) ∧ cur.drop j = l.drop j ∧ cur.length = l.length) ∧ strE.Own wr base 9 (.slice (some ⟨r, 0, none⟩) l.length c) cur ∧ Below base w wr) (fun _ jv _ => l.length - (intOf jv).toNat)
    case atStart => exact ⟨k0, k0 + 1, l, by omega, by omega, by omega, rfl, by go_num, ⟨H0.out, rfl, rfl⟩, HO.out, Below.refl _ _⟩
    case round =>
      obtain ⟨i, j, cur, hkj, hj, hij, rfl, rfl, hcu, hown, hb⟩ := hrel
      have hin : i ≤ 1000000000 := by omega
      by_cases hlt : j < l.length
      · obtain ⟨x, hx⟩ : ∃ x, l[j]? = some x := ⟨_, List.getElem?_eq_getElem hlt⟩
        have hxc : cur[j]? = some x := by
          have e := congrArg (·[0]?) hcu.out.2.1
          simpa [hx] using e
        obtain ⟨r1, hr1, -, -, hcj, -, -⟩ := hown.spot (i := j) (j := 0) hxc rfl
        obtain rfl : r = r1 := congrArg Addr.block (Option.some.inj hr1)
        have c0 : wr.cell? ⟨r, j, none⟩ = some (.string x) := by rw [show j * strE.k + 0 = j from Nat.mul_one j] at hcj; exact hcj
        have hcc := kept (sclo_any x s g wr ((hb.cell (p := ⟨g, 2, none⟩) hg).trans HC.out))
        have HSN := kept (filter_snoc (fun x => !(isT s x)) hx)
        rw [← HNO.out, ← HNO.out] at HSN
        have HDR : Kept (cur.drop (j + 1) = l.drop (j + 1)) := ⟨by
          have e := congrArg (List.drop 1) hcu.out.2.1
          simpa [List.drop_drop] using e⟩
        have hjn : (j : Int) < (l.length : Int) := by omega
        cases ht : isT s x with
        | true =>
          rw [ht] at hcc HSN
          have HN : Kept (cur.take i = noT s (l.take (j + 1)) ∧ cur.drop (j + 1) = l.drop (j + 1) ∧ cur.length = l.length) := ⟨by rw [HSN.out]; simpa using hcu.out.1, HDR.out, hcu.out.2.2⟩
          clear hx hxc hr1 hcj ht HSN HDR hcu
          go_wp2_with fail
          refine hcc.out.mono ?_
          rintro e w1 ⟨rfl, rfl⟩
          go_wp2_with fail
          go_roundw
          case rel => exact ⟨i, j + 1, cur, by omega, by omega, by omega, rfl, by go_num, HN, hown, hb⟩
          case measure => simp [intOf]; omega
        | false =>
          rw [ht] at hcc HSN
          have hic : i < cur.length := by rw [hcu.out.2.2]; omega
          obtain ⟨y, hy⟩ : ∃ y, cur[i]? = some y := ⟨_, List.getElem?_eq_getElem hic⟩
          obtain ⟨r2, hr2, -, -, hci, hfi, hst⟩ := hown.spot (i := i) (j := 0) hy rfl
          obtain rfl : r = r2 := congrArg Addr.block (Option.some.inj hr2)
          obtain ⟨ho2, hg2⟩ := hst x (.string x) rfl
          rw [show i * strE.k + 0 = i from Nat.mul_one i] at hci hfi ho2 hg2
          have HO2 := kept ho2
          have HB2 := kept (hb.setCell (p := ⟨r, i, none⟩) hbr (.string x))
          have HN : Kept ((cur.set i x).take (i + 1) = noT s (l.take (j + 1)) ∧ (cur.set i x).drop (j + 1) = l.drop (j + 1) ∧ (cur.set i x).length = l.length) := ⟨by
            rw [HSN.out, List.take_succ_eq_append_getElem (by rw [List.length_set]; exact hic), List.take_set_of_le (Nat.le_refl i), hcu.out.1]
            simp, by rw [List.drop_set_of_lt (by omega)]; exact HDR.out, by rw [List.length_set]; exact hcu.out.2.2⟩
          have hil : i < l.length := by omega
          have hiln : (i : Int) < (l.length : Int) := by omega
          clear hx hxc hr1 hcj ht HSN HDR hcu hy hr2 hst ho2 hg2 hic hown hb
          go_wp2_with fail
          refine hcc.out.mono ?_
          rintro e w1 ⟨rfl, rfl⟩
          go_wp2_with fail
          go_roundw
          case rel => exact ⟨i + 1, j + 1, cur.set i x, by omega, by omega, by omega, by go_num, by go_num, HN, HO2.out, HB2.out⟩
          case measure => simp [intOf]; omega
      · obtain rfl : j = l.length := by omega
        have hcl := hown.cleared (i := i) hij 39 Try.underlying39 (.string ⟨#[]⟩) (by kernel_rfl) (by intro u hu; simp [Value.cells] at hu; subst hu; rfl) (by rfl) (c - i)
        rw [show i * strE.k = i from Nat.mul_one i] at hcl
        obtain ⟨hrun, ho3, hu3⟩ := hcl
        have HF : Kept (cur.take i = noT s l) := ⟨by rw [hcu.out.1, List.take_length]⟩
        have HO3 := kept ho3
        have HB3 := kept (hb.trans (hu3.below (Nat.le_trans hbs hb.size) (fun k _ e => by omega)))
        have hjn : ¬ (l.length : Int) < (l.length : Int) := by omega
        have e1 : (i : Int) ≤ (l.length : Int) := by omega
        have e2 : (l.length : Int) ≤ (c : Int) := by omega
        have e3 : ¬ c = i := by omega
        have e4 : (0 : Int) ≤ (i : Int) := by omega
        have e5 : (i : Int) ≤ (c : Int) := by omega
        have e6 : i ≤ l.length := by omega
        have e7 : i ≤ c := by omega
        have hil : (noT s l).length = i := by rw [← HF.out, List.length_take]; rw [hcu.out.2.2]; omega
        have HIL := kept hil
        clear hcu ho3 hu3 hown hb hil
        go_wp2_with fail
        go_ret
        refine ⟨some ⟨r, 0, none⟩, c, by rw [HIL.out]; rfl, ?_, HB3.out⟩
        rw [HIL.out, ← HF.out]
        exact HO3.out
end Go.Proofs.Ytnmcclkpgbdenaa.Reg
