/- slices.DeleteFunc of groups of numbers: those of fewer than two go. (printed by tools/gentrow.py) -/
import Derived.Test.YtfkfpanhbanljaaGreatDoorSortC
import Derived.Test.YtfkfpanhbanljaaGreatDoorSet49
import Derived.Test.YtfkfpanhbanljaaGreatDoorSet18
import Derived.Test.YtfkfpanhbanljaaGreatDoorSet13
namespace Go.Proofs.YtfkfpanhbanljaaGreatDoor.Twin
open Go.RowKit Go.Proofs.YtfkfpanhbanljaaGreatDoor.Mem

/-- a group: a row of numbers -/
structure GrpM where
  A : Option Addr
  l : List Nat
  c : Nat
def GrpM.val (g : GrpM) : Value := .slice g.A g.l.length g.c
def grpE : Elem GrpM := ⟨fun g => [g.val], 1, by decide, fun _ => rfl, fun _ u hu => by rcases List.mem_singleton.1 hu with rfl; rfl⟩
/-- fewer than two? -/
def few2 (g : GrpM) : Bool := decide (g.l.length < 2)
theorem gclo_any (x : GrpM) (w : World) : Calls Tryz.prog 56 #[x.val] w fun e w' => e = .returned (.bool (few2 x)) ∧ w = w' := by
  unfold few2 GrpM.val
  have hd : decide ((x.l.length : Int) < 2) = decide (x.l.length < 2) := by rw [decide_eq_decide]; omega
  have HD := kept hd
  clear hd
  go_enter Tryz.func56, Tryz.ntmps56
  go_wp2
  go_ret
  rw [← HD.out]
  exact ⟨rfl, rfl⟩
theorem grpE_get {w : World} {B : Nat} {A : Option Addr} {l : List GrpM} (h : grpE.Rd w B A l) {i : Nat} {x : GrpM} (hi : l[i]? = some x) : ∃ b o, A = some ⟨b, o, none⟩ ∧ b < B ∧ w.cell? ⟨b, o + i, none⟩ = some x.val := by
  obtain ⟨b, o, e, hb, hc⟩ := h.at_ hi
  refine ⟨b, o, e, hb, ?_⟩
  have := hc 0 _ rfl
  rw [show i * grpE.k + 0 = i from Nat.mul_one i] at this
  exact this
theorem find_g (p : GrpM → Bool) (l : List GrpM) : (∀ (j : Nat) y, l[j]? = some y → p y = false) ∨ ∃ k0 x0, l[k0]? = some x0 ∧ p x0 = true ∧ ∀ (j : Nat) y, j < k0 → l[j]? = some y → p y = false := by
  induction l with
  | nil => exact .inl fun j y h => by simp at h
  | cons z l ih =>
    cases hz : p z with
    | true => exact .inr ⟨0, z, rfl, hz, fun j y h => by omega⟩
    | false =>
      rcases ih with h | ⟨k0, x0, h1, h2, h3⟩
      · refine .inl fun j y hy => ?_
        cases j with
        | zero => obtain rfl := Option.some.inj hy; exact hz
        | succ j => exact h j y hy
      · refine .inr ⟨k0 + 1, x0, h1, h2, fun j y hj hy => ?_⟩
        cases j with
        | zero => obtain rfl := Option.some.inj hy; exact hz
        | succ j => exact h3 j y (by omega) hy
theorem filter_snocG {α : Type} (p : α → Bool) {l : List α} {j : Nat} {x : α} (hx : l[j]? = some x) : (l.take (j + 1)).filter p = (l.take j).filter p ++ (if p x then [x] else []) := by
  obtain ⟨h1, h2⟩ := List.getElem?_eq_some_iff.1 hx
  rw [List.take_succ_eq_append_getElem h1, h2, List.filter_append]
  simp [List.filter_cons]
theorem gidx_at (A : Option Addr) (n c : Nat) (l : List GrpM) (k0 : Nat) (x0 : GrpM) (w : World) (hn : n = l.length) (hr : grpE.Rd w w.heap.size A l) 
    (hk0 : l[k0]? = some x0) (hx0 : few2 x0 = true) (hbef : ∀ (j : Nat) y, j < k0 → l[j]? = some y → few2 y = false) (hsz : l.length ≤ 9223372036854775807) :
    Calls Tryz.prog 88 #[.slice A n c, .func (.func 56) #[] #[]] w fun e w' => e = .returned (.int .i64 (k0 : Int)) ∧ w = w' := by
  subst hn
  have hlt0 := (List.getElem?_eq_some_iff.1 hk0).1
  have HR := kept hr
  clear hr
  go_enter Tryz.func88, Tryz.ntmps88
  go_wp2
  go_loopw [8] (fun i wr => ∃ k : Nat, k ≤ k0 ∧ i = .int .i64 (k : Int) ∧ w = wr) (fun i _ => l.length - (intOf i).toNat)
  case atStart => exact ⟨0, Nat.zero_le _, rfl, rfl⟩
  case round =>
    obtain ⟨k, hk, rfl, rfl⟩ := hrel
    have hlt : k < l.length := by omega
    obtain ⟨x, hx⟩ : ∃ x, l[k]? = some x := ⟨_, List.getElem?_eq_getElem hlt⟩
    obtain ⟨b, o, rfl, hbb, hx1⟩ := grpE_get HR.out hx
    have hcc := kept (gclo_any x w)
    by_cases he : k = k0
    · subst he
      obtain rfl : x = x0 := Option.some.inj (hx.symm.trans hk0)
      rw [hx0] at hcc
      clear hx hx0 hbef hk0
      go_wp2_with fail
      refine hcc.out.mono ?_
      rintro e w1 ⟨rfl, rfl⟩
      go_wp2
      go_ret
      exact ⟨rfl, rfl⟩
    · have hf := hbef k x (by omega) hx
      rw [hf] at hcc
      clear hx hf
      go_wp2_with fail
      refine hcc.out.mono ?_
      rintro e w1 ⟨rfl, rfl⟩
      go_wp2
      go_roundw
      case rel => exact ⟨k + 1, by omega, by go_num, trivial⟩
      case measure => simp [intOf]; omega
theorem gidx_none (A : Option Addr) (n c : Nat) (l : List GrpM) (w : World) (hn : n = l.length) (hr : grpE.Rd w w.heap.size A l) 
    (hbef : ∀ (j : Nat) y, l[j]? = some y → few2 y = false) (hsz : l.length ≤ 9223372036854775807) :
    Calls Tryz.prog 88 #[.slice A n c, .func (.func 56) #[] #[]] w fun e w' => e = .returned (.int .i64 (-1)) ∧ w = w' := by
  subst hn
  have HR := kept hr
  clear hr
  go_enter Tryz.func88, Tryz.ntmps88
  go_wp2
  go_loopw [8] (fun i wr => ∃ k : Nat, k ≤ l.length ∧ i = .int .i64 (k : Int) ∧ w = wr) (fun i _ => l.length - (intOf i).toNat)
  case atStart => exact ⟨0, Nat.zero_le _, rfl, rfl⟩
  case round =>
    obtain ⟨k, hk, rfl, rfl⟩ := hrel
    by_cases hlt : k < l.length
    · obtain ⟨x, hx⟩ : ∃ x, l[k]? = some x := ⟨_, List.getElem?_eq_getElem hlt⟩
      obtain ⟨b, o, rfl, hbb, hx1⟩ := grpE_get HR.out hx
      have hcc := kept (gclo_any x w)
      rw [hbef k x hx] at hcc
      clear hx
      go_wp2_with fail
      refine hcc.out.mono ?_
      rintro e w1 ⟨rfl, rfl⟩
      go_wp2
      go_roundw
      case rel => exact ⟨k + 1, by omega, by go_num, trivial⟩
      case measure => simp [intOf]; omega
    · go_wp2
      go_ret
      exact ⟨rfl, rfl⟩
def big2 (l : List GrpM) : List GrpM := l.filter fun x => !(few2 x)
set_option maxRecDepth 100000 in
set_option maxHeartbeats 1000000 in
theorem gdel_any (base : Nat) (A : Option Addr) (c : Nat) (l : List GrpM) (w : World) (h : grpE.Own w base 49 (.slice A l.length c) l) (_hbs : base ≤ w.heap.size) (hsz : l.length ≤ 1000000000) :
    Calls Tryz.prog 55 #[.slice A l.length c, .func (.func 56) #[] #[]] w fun e w' =>
      ∃ A' c', e = .returned (.slice A' (big2 l).length c') ∧ grpE.Own w' base 49 (.slice A' (big2 l).length c') (big2 l) ∧ Upd (fun k => (Value.slice A l.length c).ownBlock = some k) w w' := by
  rcases find_g few2 l with hn | ⟨k0, x0, hk0, hx0, hbef⟩
  · have CI := kept (gidx_none A l.length c l w rfl h.rd hn (by omega))
    have HF : Kept (big2 l = l) := ⟨List.filter_eq_self.2 fun x hx => by
      obtain ⟨j, hj⟩ := List.getElem?_of_mem hx
      rw [hn j x hj]; rfl⟩
    have HO := kept h
    clear h hn
    go_enter Tryz.func55, Tryz.ntmps55
    go_wp2_with fail
    refine CI.out.mono ?_
    rintro e w1 ⟨rfl, rfl⟩
    go_wp2_with fail
    go_ret
    exact ⟨A, c, by rw [HF.out]; rfl, by rw [HF.out]; exact HO.out, Upd.refl _ _⟩
  · have CI := kept (gidx_at A l.length c l k0 x0 w rfl h.rd hk0 hx0 hbef (by omega))
    have hlt0 := (List.getElem?_eq_some_iff.1 hk0).1
    have hcap : l.length ≤ c := h.cap
    obtain ⟨r, rfl, hbr, hrw, -, -, -⟩ := h.spot (i := k0) (j := 0) hk0 rfl
    have HNO : Kept (∀ q : List GrpM, big2 q = q.filter fun x => !(few2 x)) := ⟨fun _ => rfl⟩
    have h0 : l.take k0 = big2 (l.take (k0 + 1)) := by
      rw [HNO.out, filter_snocG (fun x => !(few2 x)) hk0, hx0]
      have : (l.take k0).filter (fun x => !(few2 x)) = l.take k0 := List.filter_eq_self.2 fun x hx => by
        obtain ⟨j, hj⟩ := List.getElem?_of_mem hx
        rw [List.getElem?_take] at hj
        split at hj
        · rw [hbef j x (by assumption) hj]; rfl
        · cases hj
      rw [this]; simp
    have H0 := kept h0
    have HO := kept h
    have hkm : ((k0 : Int) == -1) = false := by rw [beq_eq_false_iff_ne]; omega
    clear h hbef hk0 hx0 h0
    go_enter Tryz.func55, Tryz.ntmps55
    go_wp2_with fail
    refine CI.out.mono ?_
    rintro e w1 ⟨rfl, rfl⟩
    clear CI
    go_wp2_with fail
    go_loopw [5, 6] (fun iv jv wr => ∃ (i j : Nat) (cur : List GrpM), k0 < j ∧ j ≤ l.length ∧ i < j ∧ iv = .int .i64 (i : Int) ∧ jv = .int .i64 (j : Int) ∧ Kept (cur.take i = big2 (l.take j) ∧ cur.drop j = l.drop j ∧ cur.length = l.length) ∧ grpE.Own wr base 49 (.slice (some ⟨r, 0, none⟩) l.length c) cur ∧ Upd (fun k => (Value.slice (some ⟨r, 0, none⟩) l.length c).ownBlock = some k) w wr) (fun _ jv _ => l.length - (intOf jv).toNat)
    case atStart => exact ⟨k0, k0 + 1, l, by omega, by omega, by omega, rfl, by go_num, ⟨H0.out, rfl, rfl⟩, HO.out, Upd.refl _ _⟩
    case round =>
      obtain ⟨i, j, cur, hkj, hj, hij, rfl, rfl, hcu, hown, hb⟩ := hrel
      have hin : i ≤ 1000000000 := by omega
      by_cases hlt : j < l.length
      · obtain ⟨x, hx⟩ : ∃ x, l[j]? = some x := ⟨_, List.getElem?_eq_getElem hlt⟩
        have hxc : cur[j]? = some x := by
          have e := congrArg (·[0]?) hcu.out.2.1
          simpa [hx] using e
        obtain ⟨r1, hr1, -, -, hcj, -, -⟩ := hown.spot (i := j) (j := 0) hxc rfl
        obtain rfl : r = r1 := congrArg Addr.block (Option.some.inj hr1)
        have c0 : wr.cell? ⟨r, j, none⟩ = some (x.val) := by rw [show j * grpE.k + 0 = j from Nat.mul_one j] at hcj; exact hcj
        have hcc := kept (gclo_any x wr)
        have HSN := kept (filter_snocG (fun x => !(few2 x)) hx)
        rw [← HNO.out, ← HNO.out] at HSN
        have HDR : Kept (cur.drop (j + 1) = l.drop (j + 1)) := ⟨by
          have e := congrArg (List.drop 1) hcu.out.2.1
          simpa [List.drop_drop] using e⟩
        have hjn : (j : Int) < (l.length : Int) := by omega
        cases ht : few2 x with
        | true =>
          rw [ht] at hcc HSN
          have HN : Kept (cur.take i = big2 (l.take (j + 1)) ∧ cur.drop (j + 1) = l.drop (j + 1) ∧ cur.length = l.length) := ⟨by rw [HSN.out]; simpa using hcu.out.1, HDR.out, hcu.out.2.2⟩
          clear hx hxc hr1 hcj ht HSN HDR hcu
          go_wp2_with fail
          refine hcc.out.mono ?_
          rintro e w1 ⟨rfl, rfl⟩
          go_wp2_with fail
          go_roundw
          case rel => exact ⟨i, j + 1, cur, by omega, by omega, by omega, rfl, by go_num, HN, hown, hb⟩
          case measure => simp [intOf]; omega
        | false =>
          rw [ht] at hcc HSN
          have hic : i < cur.length := by rw [hcu.out.2.2]; omega
          obtain ⟨y, hy⟩ : ∃ y, cur[i]? = some y := ⟨_, List.getElem?_eq_getElem hic⟩
          obtain ⟨r2, hr2, -, -, hci, hfi, hst⟩ := hown.spot (i := i) (j := 0) hy rfl
          obtain rfl : r = r2 := congrArg Addr.block (Option.some.inj hr2)
          obtain ⟨ho2, hg2⟩ := hst x x.val rfl
          rw [show i * grpE.k + 0 = i from Nat.mul_one i] at hci hfi ho2 hg2
          have HO2 := kept ho2
          have HB2 := kept (hb.setCell (p := ⟨r, i, none⟩) (.inl rfl) (x.val))
          have HN : Kept ((cur.set i x).take (i + 1) = big2 (l.take (j + 1)) ∧ (cur.set i x).drop (j + 1) = l.drop (j + 1) ∧ (cur.set i x).length = l.length) := ⟨by
            rw [HSN.out, List.take_succ_eq_append_getElem (by rw [List.length_set]; exact hic), List.take_set_of_le (Nat.le_refl i), hcu.out.1]
            simp, by rw [List.drop_set_of_lt (by omega)]; exact HDR.out, by rw [List.length_set]; exact hcu.out.2.2⟩
          have hil : i < l.length := by omega
          have hiln : (i : Int) < (l.length : Int) := by omega
          clear hx hxc hr1 hcj ht HSN HDR hcu hy hr2 hst ho2 hg2 hic hown hb
          obtain ⟨xA, xl, xc⟩ := x
          unfold GrpM.val at hcc c0 HO2 HB2 hci
          dsimp only at hcc c0 HO2 HB2 hci
          go_wp2_with fail
          refine hcc.out.mono ?_
          rintro e w1 ⟨rfl, rfl⟩
          go_wp2_with fail
          go_roundw
          case rel => exact ⟨i + 1, j + 1, cur.set i _, by omega, by omega, by omega, by go_num, by go_num, HN, HO2.out, HB2.out⟩
          case measure => simp [intOf]; omega
      · obtain rfl : j = l.length := by omega
        have hcl := hown.cleared (i := i) hij 47 Tryz.underlying47 (.slice none 0 0) (by kernel_rfl) (by intro u hu; simp [Value.cells] at hu; subst hu; rfl) (by rfl) (c - i)
        rw [show i * grpE.k = i from Nat.mul_one i] at hcl
        obtain ⟨hrun, ho3, hu3⟩ := hcl
        have HF : Kept (cur.take i = big2 l) := ⟨by rw [hcu.out.1, List.take_length]⟩
        have HO3 := kept ho3
        have HB3 := kept (hb.trans (hu3.mono fun k _ e => by rw [e]; rfl))
        have hjn : ¬ (l.length : Int) < (l.length : Int) := by omega
        have e1 : (i : Int) ≤ (l.length : Int) := by omega
        have e2 : (l.length : Int) ≤ (c : Int) := by omega
        have e3 : ¬ c = i := by omega
        have e4 : (0 : Int) ≤ (i : Int) := by omega
        have e5 : (i : Int) ≤ (c : Int) := by omega
        have e6 : i ≤ l.length := by omega
        have e7 : i ≤ c := by omega
        have hil : (big2 l).length = i := by rw [← HF.out, List.length_take]; rw [hcu.out.2.2]; omega
        have HIL := kept hil
        clear hcu ho3 hu3 hown hb hil
        go_wp2_with fail
        go_ret
        refine ⟨some ⟨r, 0, none⟩, c, by rw [HIL.out]; rfl, ?_, HB3.out⟩
        rw [HIL.out, ← HF.out]
        exact HO3.out
end Go.Proofs.YtfkfpanhbanljaaGreatDoor.Twin
