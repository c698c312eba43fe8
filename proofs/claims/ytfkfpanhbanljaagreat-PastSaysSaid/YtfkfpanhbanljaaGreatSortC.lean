/- slices.Compact of numbers (uint64), in a row of the call's own. -/
import Derived.Test.YtfkfpanhbanljaaGreatSetG
import Derived.Test.YtfkfpanhbanljaaGreatSetAA
import Derived.Test.YtfkfpanhbanljaaGreatElemU
import Derived.BigQuiet
import Derived.Deep.DeepCutAuto
namespace Go.Proofs.YtfkfpanhbanljaaGreat.SortW
open Go.RowKit Go.Proofs.YtfkfpanhbanljaaGreat.Mem

/-- each number once, where the same ones stand side by side -/
def ddStep (acc : List Nat) (x : Nat) : List Nat := if acc.getLast? = some x then acc else acc ++ [x]
def dd (l : List Nat) : List Nat := l.foldl ddStep []
theorem dd_snoc (l : List Nat) (x : Nat) : dd (l ++ [x]) = ddStep (dd l) x := by unfold dd; rw [List.foldl_append]; rfl
theorem dd_next {l : List Nat} {k x : Nat} (hx : l[k]? = some x) : dd (l.take (k + 1)) = ddStep (dd (l.take k)) x := by
  obtain ⟨h1, h2⟩ := List.getElem?_eq_some_iff.1 hx
  rw [List.take_succ_eq_append_getElem h1, h2, dd_snoc]
theorem ddStep_last (acc : List Nat) (x : Nat) : (ddStep acc x).getLast? = some x := by
  unfold ddStep
  split
  · assumption
  · simp
theorem dd_last {l : List Nat} {k x : Nat} (hx : l[k]? = some x) : (dd (l.take (k + 1))).getLast? = some x := by rw [dd_next hx]; exact ddStep_last _ _
theorem dd_step {l : List Nat} {k x y : Nat} (hx : l[k]? = some x) (hy : l[k + 1]? = some y) : dd (l.take (k + 1 + 1)) = if x = y then dd (l.take (k + 1)) else dd (l.take (k + 1)) ++ [y] := by
  rw [dd_next hy]
  unfold ddStep
  rw [dd_last hx]
  by_cases e : x = y
  · rw [if_pos e, if_pos (by rw [e])]
  · rw [if_neg e, if_neg (fun h => e (Option.some.inj h))]
theorem dd_mem : ∀ (l : List Nat) (acc : List Nat) (y : Nat), y ∈ l.foldl ddStep acc ↔ y ∈ acc ∨ y ∈ l
  | [], _, _ => by simp
  | x :: l, acc, y => by
    rw [List.foldl_cons, dd_mem l]
    unfold ddStep
    split
    · rename_i h
      have hm : x ∈ acc := List.mem_of_getLast? h
      rw [List.mem_cons]
      constructor
      · rintro (h | h)
        · exact .inl h
        · exact .inr (.inr h)
      · rintro (h | rfl | h)
        · exact .inl h
        · exact .inl hm
        · exact .inr h
    · simp only [List.mem_append, List.mem_cons, List.not_mem_nil, or_false]
      constructor
      · rintro ((h | h) | h)
        · exact .inl h
        · exact .inr (.inl h)
        · exact .inr (.inr h)
      · rintro (h | h | h)
        · exact .inl (.inl h)
        · exact .inl (.inr h)
        · exact .inr h
theorem dd_rising : ∀ (l acc : List Nat), l.Pairwise (· ≤ ·) → acc.Pairwise (· < ·) → (∀ a ∈ acc, ∀ b ∈ l, a ≤ b) → (l.foldl ddStep acc).Pairwise (· < ·)
  | [], _, _, h, _ => h
  | x :: l, acc, hl, ha, hm => by
    have hl2 := List.pairwise_cons.1 hl
    rw [List.foldl_cons]
    unfold ddStep
    split
    · exact dd_rising l acc hl2.2 ha fun a h1 b h2 => hm a h1 b (List.mem_cons_of_mem _ h2)
    · rename_i hne
      refine dd_rising l _ hl2.2 ?_ ?_
      · rw [List.pairwise_append]
        refine ⟨ha, List.pairwise_singleton _ _, fun a h1 b h2 => ?_⟩
        obtain rfl := List.mem_singleton.1 h2
        have h3 := hm a h1 b (List.mem_cons_self ..)
        rcases Nat.lt_or_ge a b with h4 | h4
        · exact h4
        · exfalso
          obtain rfl : a = b := by omega
          obtain ⟨z, hz⟩ : ∃ z, acc.getLast? = some z := by
            cases h5 : acc.getLast? with
            | some z => exact ⟨z, rfl⟩
            | none => rw [List.getLast?_eq_none_iff.1 h5] at h1; cases h1
          have hz2 : z ∈ acc := List.mem_of_getLast? hz
          have h6 := hm z hz2 a (List.mem_cons_self ..)
          obtain ⟨ini, rfl⟩ : ∃ ini, acc = ini ++ [z] := by
            obtain ⟨ini, h7⟩ := List.getLast?_eq_some_iff.1 hz
            exact ⟨ini, h7⟩
          rcases List.mem_append.1 h1 with h8 | h8
          · have := (List.pairwise_append.1 ha).2.2 a h8 z (List.mem_singleton.2 rfl)
            omega
          · obtain rfl := List.mem_singleton.1 h8
            exact hne hz
      · intro a h1 b h2
        rcases List.mem_append.1 h1 with h3 | h3
        · exact hm a h3 b (List.mem_cons_of_mem _ h2)
        · rw [List.mem_singleton.1 h3]; exact hl2.1 b h2
/-- a number, as an element of a row -/
def wordE : Elem Nat := ⟨fun x => [.int .u64 (x : Int)], 1, by decide, fun _ => rfl, fun _ u hu => by rcases List.mem_singleton.1 hu with rfl; rfl⟩
theorem wordE_cells (l : List Nat) : wordE.cells l = WB l := by
  unfold Elem.cells WB
  induction l with
  | nil => rfl
  | cons x l ih => rw [List.flatMap_cons, ih]; rfl
theorem word_own {w : World} {base : Nat} {v : Value} {l : List Nat} : Own w base 33 v (WB l) ↔ wordE.Own w base 33 v l := by
  unfold Own Elem.Own OwnK
  rw [wordE_cells, WB_length]
  exact Iff.rfl
set_option maxRecDepth 100000 in
set_option maxHeartbeats 4000000 in
theorem compact_own (base : Nat) (A : Option Addr) (c : Nat) (l : List Nat) (w : World) (h : Own w base 33 (.slice A l.length c) (WB l)) (hsz : l.length ≤ 1000000) :
    Calls Tryz.prog 45 #[.slice A l.length c] w fun e w' => e = .returned (.slice A (dd l).length c) ∧ Own w' base 33 (.slice A (dd l).length c) (WB (dd l)) ∧ Upd (fun k => (Value.slice A l.length c).ownBlock = some k) w w' := by
  have hcap : l.length ≤ c := (word_own.1 h).cap
  by_cases h2 : l.length < 2
  · have hd : dd l = l := by
      match l, h2 with
      | [], _ => rfl
      | [x], _ => rfl
    have HD := kept hd
    have hlt : (l.length : Int) < 2 := by omega
    have H := kept h
    clear h hd
    go_enter Tryz.func45, Tryz.ntmps45
    go_wp2_with fail
    go_ret
    rw [HD.out]
    exact ⟨rfl, H.out, Upd.refl _ _⟩
  · have hlt : ¬ (l.length : Int) < 2 := by omega
    obtain ⟨r, rfl⟩ : ∃ r, A = some ⟨r, 0, none⟩ := by
      obtain ⟨r, h1, -⟩ := word_spot h (k := 0) (by omega)
      exact ⟨r, h1⟩
    have hbr : base ≤ r := ((word_own.1 h).lt r rfl).1
    have H := kept h
    clear h
    go_enter Tryz.func45, Tryz.ntmps45
    go_wp2_with fail
    go_loopw [3] (fun iv wr => ∃ (k q : Nat), 1 ≤ k ∧ k ≤ l.length ∧ iv = .int .i64 (k : Int) ∧ Kept (dd (l.take k) = l.take k) ∧ Kept (wr = w.drewN q)) (fun iv _ => l.length - (intOf iv).toNat)
    case atStart =>
      refine ⟨1, 0, Nat.le_refl _, by omega, rfl, ⟨?_⟩, ⟨rfl⟩⟩
      match l, h2 with
      | x :: l, _ => rfl
    case round =>
      obtain ⟨k, q, hk1, hk2, rfl, HD, HQ⟩ := hrel
      have HOW : Kept (Own wr base 33 (.slice (some ⟨r, 0, none⟩) l.length c) (WB l)) := ⟨by rw [HQ.out]; exact H.out⟩
      have HUP : Kept (Upd (fun k => (Value.slice (some ⟨r, 0, none⟩) l.length c).ownBlock = some k) w wr) := ⟨by rw [HQ.out]; exact (Upd.refl _ _).drewN q⟩
      by_cases hlk : k < l.length
      · obtain ⟨g1, e1, -, c0, f0, -⟩ := word_spot HOW.out (k := k) (by omega)
        obtain rfl : r = g1 := congrArg Addr.block (Option.some.inj e1)
        obtain ⟨g2, e2, -, c1, f1, -⟩ := word_spot HOW.out (k := k - 1) (by omega)
        obtain rfl : r = g2 := congrArg Addr.block (Option.some.inj e2)
        have hx0 : l[k - 1]? = some (l.getD (k - 1) 0) := by simp [List.getD, show k - 1 < l.length by omega]
        have hx1 : l[k - 1 + 1]? = some (l.getD k 0) := by rw [show k - 1 + 1 = k by omega]; simp [List.getD, hlk]
        have hst := dd_step hx0 hx1
        rw [show k - 1 + 1 + 1 = k + 1 by omega, show k - 1 + 1 = k by omega, HD.out] at hst
        have htk : l.take (k + 1) = l.take k ++ [l.getD k 0] := by
          rw [show k - 1 + 1 = k by omega] at hx1
          obtain ⟨h3, h4⟩ := List.getElem?_eq_some_iff.1 hx1
          rw [List.take_succ_eq_append_getElem h3, h4]
        have HST := kept hst
        have HTK := kept htk
        have hkn : (k : Int) < (l.length : Int) := by omega
        have hw1 : IntKind.i64.wrap ((k : Int) - 1) = ((k - 1 : Nat) : Int) := by rw [IntKind.wrap_i64]; omega
        have hb1 : (0 : Int) ≤ ((k - 1 : Nat) : Int) := by omega
        have hb2 : ((k - 1 : Nat) : Int) < (l.length : Int) := by omega
        clear hst htk hx0 hx1 e1 e2
        generalize l.getD k 0 = vx at *
        generalize l.getD (k - 1) 0 = vy at *
        by_cases hxy : vy = vx
        · have e0 : ((vx : Int) == (vy : Int)) = true := by rw [beq_iff_eq]; omega
          have HS0 : Kept (dd (l.take (k + 1)) = l.take k) := ⟨by rw [HST.out, if_pos hxy]⟩
          clear HST HTK hxy
          go_wp2_with fail
          go_quiet (fail)
          have HOQ : Kept (Own (wr.drewN nq) base 33 (.slice (some ⟨r, 0, none⟩) l.length c) (WB l)) := ⟨(by exact HOW.out)⟩
          have HUQ := kept (HUP.out.drewN nq)
          clear c0 c1 f0 f1 HOW HUP HQ
          generalize wr.drewN nq = wq at *
          have e3 : (0 : Int) ≤ (k : Int) := by omega
          have e4 : (k : Int) ≤ (l.length : Int) := by omega
          have e5 : ¬ c = k := by omega
          have e6 : (l.length : Int) ≤ (c : Int) := by omega
          go_wp2_with fail
          go_loopw [3, 5] (fun iv jv w4 => ∃ (i j : Nat) (ys : List Nat), 1 ≤ j ∧ k + j ≤ l.length ∧ i + 1 ≤ k + j ∧ iv = .int .i64 (i : Int) ∧ jv = .int .i64 (j : Int) ∧ Kept (ys.take i = dd (l.take (k + j)) ∧ ys.drop (k + j - 1) = l.drop (k + j - 1) ∧ ys.length = l.length ∧ i ≤ l.length) ∧ Kept (Own w4 base 33 (.slice (some ⟨r, 0, none⟩) l.length c) (WB ys) ∧ Upd (fun k => (Value.slice (some ⟨r, 0, none⟩) l.length c).ownBlock = some k) w w4)) (fun _ jv _ => l.length - (intOf jv).toNat)
          case atStart => exact ⟨k, 1, l, Nat.le_refl _, by omega, by omega, rfl, rfl, ⟨HS0.out.symm, rfl, rfl, by omega⟩, ⟨HOQ.out, HUQ.out⟩⟩
          case round =>
            clear HOQ HUQ HS0 HD
            obtain ⟨i, j, ys, hj1, hkj, hij, rfl, rfl, HY, HM⟩ := hrel
            have hyl : ys.length = l.length := HY.out.2.2.1
            by_cases hlj : k + j < l.length
            · have hjn : (j : Int) < ((l.length - k : Nat) : Int) := by omega
              have hjk : k + (j - 1) = k + j - 1 := by omega
              have hx0 : l[k + j - 1]? = some (l.getD (k + j - 1) 0) := by simp [List.getD, show k + j - 1 < l.length by omega]
              have hx1 : l[k + j - 1 + 1]? = some (l.getD (k + j) 0) := by rw [show k + j - 1 + 1 = k + j by omega]; simp [List.getD, hlj]
              have hst := dd_step hx0 hx1
              rw [show k + j - 1 + 1 + 1 = k + (j + 1) by omega, show k + j - 1 + 1 = k + j by omega] at hst
              have hy0 : ys.getD (k + j - 1) 0 = l.getD (k + j - 1) 0 := by
                have e := congrArg (·[0]?) HY.out.2.1
                simp only [List.getElem?_drop, Nat.add_zero] at e
                simp [List.getD, e]
              have hy1 : ys.getD (k + j) 0 = l.getD (k + j) 0 := by
                have e := congrArg (·[1]?) HY.out.2.1
                simp only [List.getElem?_drop, show k + j - 1 + 1 = k + j by omega] at e
                simp [List.getD, e]
              obtain ⟨g3, e3', -, c0, f0, -⟩ := word_spot HM.out.1 (k := k + j) (by omega)
              obtain rfl : r = g3 := congrArg Addr.block (Option.some.inj e3')
              obtain ⟨g4, e4', -, c1, f1, -⟩ := word_spot HM.out.1 (k := k + j - 1) (by omega)
              obtain rfl : r = g4 := congrArg Addr.block (Option.some.inj e4')
              rw [hy1] at c0
              rw [hy0] at c1
              have HST := kept hst
              have HDR : Kept (ys.drop (k + (j + 1) - 1) = l.drop (k + (j + 1) - 1)) := ⟨by
                have e := congrArg (List.drop 1) HY.out.2.1
                rw [List.drop_drop, List.drop_drop, show k + j - 1 + 1 = k + (j + 1) - 1 by omega] at e
                exact e⟩
              have hw2 : IntKind.i64.wrap ((j : Int) - 1) = ((j - 1 : Nat) : Int) := by rw [IntKind.wrap_i64]; omega
              have hb3 : (0 : Int) ≤ ((j - 1 : Nat) : Int) := by omega
              have hb4 : ((j - 1 : Nat) : Int) < ((l.length - k : Nat) : Int) := by omega
              clear hst hx0 hx1 e3' e4' hy0 hy1 f0 f1
              generalize l.getD (k + j) 0 = vx at *
              generalize l.getD (k + j - 1) 0 = vy at *
              by_cases hxy : vy = vx
              · have e0 : ((vx : Int) != (vy : Int)) = false := by simp; omega
                have HN : Kept (ys.take i = dd (l.take (k + (j + 1))) ∧ ys.drop (k + (j + 1) - 1) = l.drop (k + (j + 1) - 1) ∧ ys.length = l.length ∧ i ≤ l.length) := ⟨by rw [HST.out, if_pos hxy]; exact HY.out.1, HDR.out, HY.out.2.2⟩
                clear HST hxy HY HDR hyl
                go_wp2_with fail
                go_quiet (fail)
                go_wp2_with fail
                go_roundw
                case rel => exact ⟨i, j + 1, ys, by omega, by omega, by omega, rfl, by go_num, HN, ⟨(by exact HM.out.1), HM.out.2.drewN _⟩⟩
                case measure => simp [intOf]; omega
              · have e0 : ((vx : Int) != (vy : Int)) = true := by simp; omega
                have hil : i < ys.length := by omega
                have HN : Kept ((ys.set i vx).take (i + 1) = dd (l.take (k + (j + 1))) ∧ (ys.set i vx).drop (k + (j + 1) - 1) = l.drop (k + (j + 1) - 1) ∧ (ys.set i vx).length = l.length ∧ i + 1 ≤ l.length) := ⟨by
                  rw [HST.out, if_neg hxy, List.take_succ_eq_append_getElem (by rw [List.length_set]; exact hil), List.take_set_of_le (Nat.le_refl i), HY.out.1]
                  simp, by rw [List.drop_set_of_lt (by omega)]; exact HDR.out, by rw [List.length_set]; exact hyl, by omega⟩
                clear HST hxy HY HDR
                go_wp2_with fail
                go_quiet (fail)
                have HOQ : Kept (Own (wr.drewN nq) base 33 (.slice (some ⟨r, 0, none⟩) l.length c) (WB ys)) := ⟨(by exact HM.out.1)⟩
                have HUQ := kept (HM.out.2.drewN nq)
                have c0q : (wr.drewN nq).cell? ⟨r, k + j, none⟩ = some (.int .u64 (vx : Int)) := c0
                clear c0 c1 HM
                generalize wr.drewN nq = w5 at *
                obtain ⟨g3, e3', -, c2, f2, s2⟩ := word_spot HOQ.out (k := i) hil
                obtain rfl : r = g3 := congrArg Addr.block (Option.some.inj e3')
                have HO2 := kept (s2 vx)
                have HU2 := kept (HUQ.out.setCell (p := ⟨r, i, none⟩) (.inl rfl) (.int .u64 (vx : Int)))
                have hin : (i : Int) < (l.length : Int) := by omega
                clear s2 e3' HOQ HUQ hil
                go_wp2_with fail
                go_roundw
                case rel => exact ⟨i + 1, j + 1, ys.set i vx, by omega, by omega, by omega, by go_num, by go_num, HN, ⟨HO2.out, HU2.out⟩⟩
                case measure => simp [intOf]; omega
            · obtain hjl : j = l.length - k := by omega
              have HF : Kept (ys.take i = dd l) := ⟨by rw [HY.out.1, show k + j = l.length by omega, List.take_length]⟩
              have hlt3 : i < l.length := by omega
              have hcl := (word_own.1 HM.out.1)
              rw [show l.length = ys.length from hyl.symm] at hcl
              have hcl := hcl.cleared (i := i) (by omega) 23 Tryz.underlying23 (.int .u64 0) (by kernel_rfl) (by intro u hu; simp [Value.cells] at hu; subst hu; rfl) (by rfl) (c - i)
              rw [show i * wordE.k = i from Nat.mul_one i, hyl] at hcl
              obtain ⟨hrun, ho3, hu3⟩ := hcl
              have HIL : Kept ((dd l).length = i) := ⟨by rw [← HF.out, List.length_take]; omega⟩
              have HO3 := kept (word_own.2 (HF.out ▸ ho3))
              have HU3 : Kept (Upd (fun k => (Value.slice (some ⟨r, 0, none⟩) l.length c).ownBlock = some k) w (wr.setCells r i (Builtin.zeroCells (Value.int IntKind.u64 0).cells (l.length - i)).toList)) := ⟨HM.out.2.trans (hu3.mono fun k _ e => by rw [e]; rfl)⟩
              have hjn : ¬ (j : Int) < ((l.length - k : Nat) : Int) := by omega
              have e11 : (i : Int) ≤ (l.length : Int) := by omega
              have e12 : (l.length : Int) ≤ (c : Int) := by omega
              have e13 : ¬ c = i := by omega
              have e14 : (0 : Int) ≤ (i : Int) := by omega
              have e15 : (i : Int) ≤ (c : Int) := by omega
              have e16 : i ≤ l.length := by omega
              have e17 : i ≤ c := by omega
              clear HY HM ho3 hu3 hyl HF hjl
              go_wp2_with fail
              go_ret
              rw [HIL.out]
              exact ⟨rfl, HO3.out, HU3.out⟩
        · have e0 : ((vx : Int) == (vy : Int)) = false := by rw [beq_eq_false_iff_ne]; omega
          have HS0 : Kept (dd (l.take (k + 1)) = l.take (k + 1)) := ⟨by rw [HST.out, if_neg hxy, HTK.out]⟩
          clear HST HTK hxy
          go_wp2_with fail
          go_quiet (fail)
          go_wp2_with fail
          go_roundw
          case rel => exact ⟨k + 1, q + nq, by omega, by omega, by go_num, HS0, ⟨by rw [HQ.out, World.drewN_drewN]⟩⟩
          case measure => simp [intOf]; omega
      · obtain rfl : k = l.length := by omega
        have HF : Kept (dd l = l) := ⟨by have := HD.out; rwa [List.take_length] at this⟩
        go_wp2_with fail
        go_ret
        rw [HF.out]
        exact ⟨rfl, HOW.out, HUP.out⟩
end Go.Proofs.YtfkfpanhbanljaaGreat.SortW
