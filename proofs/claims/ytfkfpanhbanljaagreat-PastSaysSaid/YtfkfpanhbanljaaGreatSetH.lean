import Derived.Test.YtfkfpanhbanljaaGreatSetB
import Derived.Test.YtfkfpanhbanljaaGreatHold
import Derived.Test.YtfkfpanhbanljaaGreatMemK
import Derived.Test.YtfkfpanhbanljaaGreatSetG
import Derived.Deep.QuietTactic
import Derived.BigQuiet
import Derived.Deep.DeepCutAuto
import Derived.Test.YtfkfpanhbanljaaGreatSetAA
import Derived.Test.YtfkfpanhbanljaaGreatElemU
/- slices.insertionSortOrdered, and Sort of at most twelve numbers (bytes), in a row of the call's own. -/
namespace Go.Proofs.YtfkfpanhbanljaaGreat.SortY
open Go.Proofs.YtfkfpanhbanljaaGreat.SortW Go.RowKit Go.Proofs.YtfkfpanhbanljaaGreat.Mem

theorem isNaN_any (x : Nat) (w : World) : Calls Tryz.prog 113 #[.int .u8 (x : Int)] w fun e w' => e = .returned (.bool false) ∧ w = w' := by
  go_enter Tryz.func113, Tryz.ntmps113
  go_wp2
  go_ret
  exact ⟨by simp, rfl⟩
theorem less_any (x y : Nat) (b : Bool) (hb : decide (x < y) = b) (w : World) : Calls Tryz.prog 105 #[.int .u8 (x : Int), .int .u8 (y : Int)] w fun e w' => e = .returned (.bool b) ∧ w' = w := by
  go_enter Tryz.func105, Tryz.ntmps105
  go_wp2_with fail
  refine (isNaN_any x _).mono ?_
  rintro e w1 ⟨rfl, rfl⟩
  go_wp2_with fail
  go_ret
  first | exact ⟨rfl, rfl⟩ | exact ⟨ret_bool hb, rfl⟩
/-- a row of words of one's own: one of them, and a store there -/
theorem byte_spot {w : World} {base : Nat} {A : Option Addr} {n c : Nat} {xs : List Nat} (h : Own w base 5 (.slice A n c) (BB xs)) {k : Nat} (hk : k < xs.length) :
    ∃ g, A = some ⟨g, 0, none⟩ ∧ base ≤ g ∧ w.cell? ⟨g, k, none⟩ = some (.int .u8 ((xs.getD k 0 : Nat) : Int)) ∧ w.frozen? ⟨g, k, none⟩ = false ∧ ∀ v : Nat, Own (w.setCell ⟨g, k, none⟩ (.int .u8 (v : Int))) base 5 (.slice (some ⟨g, 0, none⟩) n c) (BB (xs.set k v)) := by
  have hu : (BB xs)[k]? = some (.int .u8 ((xs.getD k 0 : Nat) : Int)) := by simp [BB, List.getD, hk]
  obtain ⟨g, h1, h2, h3, h4, h5, h6⟩ := OwnK.spot h hu
  refine ⟨g, h1, h2, h4, h5, fun v => ?_⟩
  have := (h6 (.int .u8 (v : Int))).1
  have e : (BB xs).set k (.int .u8 (v : Int)) = BB (xs.set k v) := by simp [BB, List.map_set]
  rw [e] at this
  have hl : (BB (xs.set k v)).length = (BB xs).length := by simp [BB]
  unfold Own
  rw [hl]
  exact this
set_option maxRecDepth 100000 in
set_option maxHeartbeats 4000000 in
theorem ins_own (base : Nat) (A : Option Addr) (c : Nat) (l : List Nat) (w : World) (h : Own w base 5 (.slice A l.length c) (BB l)) (hsz : l.length ≤ 1000000) :
    Calls Tryz.prog 99 #[.slice A l.length c, .int .i64 0, .int .i64 (l.length : Int)] w fun e w' => e = .returned (.tuple #[]) ∧ ∃ l', l'.Perm l ∧ l'.Pairwise (· ≤ ·) ∧ Own w' base 5 (.slice A l.length c) (BB l') ∧ Upd (fun k => (Value.slice A l.length c).ownBlock = some k) w w' := by
  have H := kept h
  clear h
  go_enter Tryz.func99, Tryz.ntmps99
  go_wp2_with fail
  go_loopw [6] (fun i wr => ∃ (k : Nat) (xs : List Nat), 1 ≤ k ∧ (k ≤ l.length ∨ k = 1) ∧ i = .int .i64 (k : Int) ∧ Kept (xs.length = l.length) ∧ Kept (xs.Perm l ∧ UpTo xs k ∧ Own wr base 5 (.slice A l.length c) (BB xs) ∧ Upd (fun k => (Value.slice A l.length c).ownBlock = some k) w wr)) (fun i _ => l.length - (intOf i).toNat)
  case atStart => exact ⟨1, l, Nat.le_refl _, .inr rfl, rfl, ⟨rfl⟩, ⟨List.Perm.refl _, fun p q _ _ => by omega, H.out, Upd.refl _ _⟩⟩
  case round =>
    clear H
    obtain ⟨k, xs, hk1, hk2, rfl, HXL, hin⟩ := hrel
    by_cases hlt : k < l.length
    · have hkn : (k : Int) < (l.length : Int) := by omega
      have HI : Kept (But xs k k ∧ xs.Perm l ∧ Own wr base 5 (.slice A l.length c) (BB xs) ∧ Upd (fun k => (Value.slice A l.length c).ownBlock = some k) w wr) := ⟨but_start hin.out.2.1, hin.out.1, hin.out.2.2⟩
      clear hin
      go_wp2_with fail
      go_loopw [7] (fun j wr2 => ∃ (m : Nat) (ys : List Nat), m ≤ k ∧ j = .int .i64 (m : Int) ∧ Kept (ys.length = l.length) ∧ Kept (But ys k m ∧ ys.Perm l ∧ Own wr2 base 5 (.slice A l.length c) (BB ys) ∧ Upd (fun k => (Value.slice A l.length c).ownBlock = some k) w wr2)) (fun j _ => (intOf j).toNat)
      case atStart => exact ⟨k, xs, Nat.le_refl _, rfl, HXL, HI⟩
      case round =>
        clear HI HXL
        obtain ⟨m, ys, hm, rfl, HYL, hin⟩ := hrel
        rcases Nat.eq_zero_or_pos m with rfl | hpos
        · have HE : Kept (UpTo ys (k + 1) ∧ ys.Perm l ∧ Own wr base 5 (.slice A l.length c) (BB ys) ∧ Upd (fun k => (Value.slice A l.length c).ownBlock = some k) w wr) := ⟨but_end hin.out.1 hm (.inl rfl), hin.out.2⟩
          clear hin
          go_wp2_with fail
          go_quiet (fail)
          go_wp2_with fail
          go_roundw
          case rel => exact ⟨k + 1, ys, by omega, .inl (by omega), by go_num, HYL, ⟨HE.out.2.1, HE.out.1, (by exact HE.out.2.2.1), HE.out.2.2.2.drewN _⟩⟩
          case measure => simp [intOf]; omega
        · have hyl := HYL.out
          obtain ⟨r, hA, hbr, c0, f0, s0⟩ := byte_spot hin.out.2.2.1 (k := m) (by omega)
          obtain ⟨r1, hA1, -, c1, f1, -⟩ := byte_spot hin.out.2.2.1 (k := m - 1) (by omega)
          subst hA
          obtain rfl : r = r1 := congrArg Addr.block (Option.some.inj hA1)
          have hgt : (0 : Int) < (m : Int) := by omega
          have hgd : decide ((m : Int) > 0) = true := decide_eq_true hgt
          have hmn : (m : Int) < (l.length : Int) := by omega
          have hw1 : IntKind.i64.wrap ((m : Int) - 1) = ((m - 1 : Nat) : Int) := by rw [IntKind.wrap_i64]; omega
          have hb1 : (0 : Int) ≤ ((m - 1 : Nat) : Int) := by omega
          have hb2 : ((m - 1 : Nat) : Int) < (l.length : Int) := by omega
          have HIN := kept hin.out
          have HS := kept s0
          clear s0 hin hA1
          have HVX : Kept (swapL ys m = (ys.set m (ys.getD (m - 1) 0)).set (m - 1) (ys.getD m 0)) := ⟨rfl⟩
          have HBE : Kept (ys.getD (m - 1) 0 ≤ ys.getD m 0 → UpTo ys (k + 1)) := ⟨fun h => but_end HIN.out.1 hm (.inr h)⟩
          have HBS : Kept (ys.getD m 0 < ys.getD (m - 1) 0 → But (swapL ys m) k (m - 1)) := ⟨fun h => but_swap HIN.out.1 hpos hm (by omega) h⟩
          generalize ys.getD m 0 = vx at *
          generalize ys.getD (m - 1) 0 = vy at *
          cases hlt2 : decide (vx < vy) with
          | false =>
            have CL := kept (fun W => less_any vx vy false hlt2 W)
            have HE : Kept (UpTo ys (k + 1) ∧ ys.Perm l ∧ Own wr base 5 (.slice (some ⟨r, 0, none⟩) l.length c) (BB ys) ∧ Upd (fun k => (Value.slice (some ⟨r, 0, none⟩) l.length c).ownBlock = some k) w wr) := ⟨HBE.out (by simpa using hlt2), HIN.out.2⟩
            clear hlt2 HIN
            go_wp2_with fail
            go_quiet (first | (go_at_call 105; exact Calls.quiet_of_same (CL.out _)))
            go_wp2_with fail
            go_roundw
            case rel => exact ⟨k + 1, ys, by omega, .inl (by omega), by go_num, HYL, ⟨HE.out.2.1, HE.out.1, (by exact HE.out.2.2.1), HE.out.2.2.2.drewN _⟩⟩
            case measure => simp [intOf]; omega
          | true =>
            have CL := kept (fun W => less_any vx vy true hlt2 W)
            have HSW := kept (HBS.out (by simpa using hlt2))
            have HSP := kept ((swap_perm hpos (by omega)).trans HIN.out.2.1)
            have HSL : Kept ((swapL ys m).length = l.length) := ⟨by rw [swap_len, hyl]⟩
            have HUP := kept HIN.out.2.2.2
            have HOW := kept HIN.out.2.2.1
            clear hlt2 HIN
            go_wp2_with fail
            go_quiet (first | (go_at_call 105; exact Calls.quiet_of_same (CL.out _)))
            go_upto_region 6 with fail
            have HOQ : Kept (Own (wr.drewN nq) base 5 (.slice (some ⟨r, 0, none⟩) l.length c) (BB ys)) := ⟨(by exact HOW.out)⟩
            have HUQ := kept (HUP.out.drewN nq)
            have c0q : (wr.drewN nq).cell? ⟨r, m, none⟩ = some (.int .u8 (vx : Int)) := c0
            have c1q : (wr.drewN nq).cell? ⟨r, m - 1, none⟩ = some (.int .u8 (vy : Int)) := c1
            have f0q : (wr.drewN nq).frozen? ⟨r, m, none⟩ = false := f0
            have f1q : (wr.drewN nq).frozen? ⟨r, m - 1, none⟩ = false := f1
            clear c0 c1 f0 f1 HUP HOW HS
            generalize wr.drewN nq = wq at *
            have hne : ¬ m = m - 1 := by omega
            have hne2 : ¬ m - 1 = m := by omega
            have HFIN : Kept (∀ W : World, W.heap = wq.heap → Upd (fun k => (Value.slice (some ⟨r, 0, none⟩) l.length c).ownBlock = some k) w W → Own ((W.setCell ⟨r, m, none⟩ (.int .u8 (vy : Int))).setCell ⟨r, m - 1, none⟩ (.int .u8 (vx : Int))) base 5 (.slice (some ⟨r, 0, none⟩) l.length c) (BB (swapL ys m)) ∧ Upd (fun k => (Value.slice (some ⟨r, 0, none⟩) l.length c).ownBlock = some k) w ((W.setCell ⟨r, m, none⟩ (.int .u8 (vy : Int))).setCell ⟨r, m - 1, none⟩ (.int .u8 (vx : Int)))) := ⟨fun W hW hu => by
              have ho : Own W base 5 (.slice (some ⟨r, 0, none⟩) l.length c) (BB ys) := by
                have h0 := HOQ.out
                unfold Own World.ownsRow at h0 ⊢
                rw [hW]
                exact h0
              obtain ⟨g1, e1, -, -, -, s1⟩ := byte_spot ho (k := m) (by omega)
              obtain rfl : r = g1 := congrArg Addr.block (Option.some.inj e1)
              obtain ⟨g2, e2, -, -, -, s2⟩ := byte_spot (s1 vy) (k := m - 1) (by rw [List.length_set]; omega)
              obtain rfl : r = g2 := congrArg Addr.block (Option.some.inj e2)
              rw [HVX.out]
              exact ⟨s2 vx, (hu.setCell (p := ⟨r, m, none⟩) (.inl rfl) _).setCell (p := ⟨r, m - 1, none⟩) (.inl rfl) _⟩⟩
            clear HVX HBE HBS
            have HF2 := kept (HFIN.out wq.drew rfl HUQ.out.drew)
            clear HFIN HOQ HUQ
            go_region
            all_goals go_wp2_with fail
            all_goals go_roundw
            all_goals first | exact ⟨m - 1, swapL ys m, by omega, by go_num, HSL, ⟨HSW.out, HSP.out, HF2.out.1, HF2.out.2⟩⟩ | (simp [intOf]; omega)
    · have HF : Kept (xs.Perm l ∧ xs.Pairwise (· ≤ ·) ∧ Own wr base 5 (.slice A l.length c) (BB xs) ∧ Upd (fun k => (Value.slice A l.length c).ownBlock = some k) w wr) := ⟨hin.out.1, upTo_pairwise (fun p q h1 h2 => hin.out.2.1 p q h1 (by rw [HXL.out] at h2; omega)), hin.out.2.2⟩
      have hge : ¬ (k : Int) < (l.length : Int) := by omega
      clear hin
      go_wp2_with fail
      go_end0
      exact ⟨rfl, xs, HF.out⟩
end Go.Proofs.YtfkfpanhbanljaaGreat.SortY

/- slices.Sort of at most twelve bytes. (printed by tools/genby.py) -/
namespace Go.Proofs.YtfkfpanhbanljaaGreat.SortY
open Go.Proofs.YtfkfpanhbanljaaGreat.SortW Go.RowKit Go.Proofs.YtfkfpanhbanljaaGreat.Mem

set_option maxRecDepth 100000 in
theorem pdq_small (base : Nat) (A : Option Addr) (c : Nat) (l : List Nat) (v : Nat) (w : World) (h : Own w base 5 (.slice A l.length c) (BB l)) (hsz : l.length ≤ 12) :
    Calls Tryz.prog 87 #[.slice A l.length c, .int .i64 0, .int .i64 (l.length : Int), .int .i64 (v : Int)] w fun e w' => e = .returned (.tuple #[]) ∧ ∃ l', l'.Perm l ∧ l'.Pairwise (· ≤ ·) ∧ Own w' base 5 (.slice A l.length c) (BB l') ∧ Upd (fun k => (Value.slice A l.length c).ownBlock = some k) w w' := by
  have C := kept (ins_own base A c l w h (by omega))
  have h1 : IntKind.i64.wrap ((l.length : Int) - 0) = (l.length : Int) := by rw [IntKind.wrap_i64]; omega
  have h2 : (l.length : Int) ≤ 12 := by omega
  clear h
  generalize hn : l.length = n at *
  go_enter Tryz.func87, Tryz.ntmps87
  go_wp2_with fail
  go_loopw [1, 2] (fun a b wr => a = .int .i64 0 ∧ b = .int .i64 (n : Int) ∧ wr = w) (fun _ _ _ => 0)
  case atStart => exact ⟨rfl, rfl, rfl⟩
  case round =>
    obtain ⟨rfl, rfl, rfl⟩ := hrel
    go_wp2_with fail
    refine C.out.mono ?_
    rintro e w1 ⟨rfl, hl⟩
    go_wp2_with fail
    exact bodyPost_ret (results_none rfl _ _ _) rfl ⟨rfl, hl⟩
theorem sort_small (base : Nat) (A : Option Addr) (c : Nat) (l : List Nat) (w : World) (h : Own w base 5 (.slice A l.length c) (BB l)) (hsz : l.length ≤ 12) :
    Calls Tryz.prog 72 #[.slice A l.length c] w fun e w' => e = .returned (.tuple #[]) ∧ ∃ l', l'.Perm l ∧ l'.Pairwise (· ≤ ·) ∧ Own w' base 5 (.slice A l.length c) (BB l') ∧ Upd (fun k => (Value.slice A l.length c).ownBlock = some k) w w' := by
  have CL := kept (len_small l.length hsz w)
  have C := kept (fun v : Nat => pdq_small base A c l v w h hsz)
  have h2 : l.length ≤ 12 := hsz
  have h3 : IntKind.u64.wrap (l.length : Int) = (l.length : Int) := by rw [IntKind.wrap_u64]; omega
  clear h hsz
  generalize hn : l.length = n at *
  go_enter Tryz.func72, Tryz.ntmps72
  go_wp2_with fail
  refine CL.out.mono ?_
  rintro e w1 ⟨⟨v, rfl, hv⟩, rfl⟩
  go_wp2_with fail
  refine (C.out v).mono ?_
  rintro e w1 ⟨rfl, hl⟩
  go_wp2_with fail
  go_end0
  exact ⟨rfl, hl⟩
end Go.Proofs.YtfkfpanhbanljaaGreat.SortY

/- slices.Compact of numbers (bytes), in a row of the call's own. -/
namespace Go.Proofs.YtfkfpanhbanljaaGreat.SortY
open Go.Proofs.YtfkfpanhbanljaaGreat.SortW Go.RowKit Go.Proofs.YtfkfpanhbanljaaGreat.Mem

/-- each number once, where the same ones stand side by side -/
def ddStep (acc : List Nat) (x : Nat) : List Nat := if acc.getLast? = some x then acc else acc ++ [x]
def dd (l : List Nat) : List Nat := l.foldl ddStep []
theorem dd_snoc (l : List Nat) (x : Nat) : dd (l ++ [x]) = ddStep (dd l) x := by unfold dd; rw [List.foldl_append]; rfl
theorem dd_next {l : List Nat} {k x : Nat} (hx : l[k]? = some x) : dd (l.take (k + 1)) = ddStep (dd (l.take k)) x := by
  obtain ⟨h1, h2⟩ := List.getElem?_eq_some_iff.1 hx
  rw [List.take_succ_eq_append_getElem h1, h2, dd_snoc]
theorem ddStep_last (acc : List Nat) (x : Nat) : (ddStep acc x).getLast? = some x := by
  unfold ddStep
  split
  · assumption
  · simp
theorem dd_last {l : List Nat} {k x : Nat} (hx : l[k]? = some x) : (dd (l.take (k + 1))).getLast? = some x := by rw [dd_next hx]; exact ddStep_last _ _
theorem dd_step {l : List Nat} {k x y : Nat} (hx : l[k]? = some x) (hy : l[k + 1]? = some y) : dd (l.take (k + 1 + 1)) = if x = y then dd (l.take (k + 1)) else dd (l.take (k + 1)) ++ [y] := by
  rw [dd_next hy]
  unfold ddStep
  rw [dd_last hx]
  by_cases e : x = y
  · rw [if_pos e, if_pos (by rw [e])]
  · rw [if_neg e, if_neg (fun h => e (Option.some.inj h))]
theorem dd_mem : ∀ (l : List Nat) (acc : List Nat) (y : Nat), y ∈ l.foldl ddStep acc ↔ y ∈ acc ∨ y ∈ l
  | [], _, _ => by simp
  | x :: l, acc, y => by
    rw [List.foldl_cons, dd_mem l]
    unfold ddStep
    split
    · rename_i h
      have hm : x ∈ acc := List.mem_of_getLast? h
      rw [List.mem_cons]
      constructor
      · rintro (h | h)
        · exact .inl h
        · exact .inr (.inr h)
      · rintro (h | rfl | h)
        · exact .inl h
        · exact .inl hm
        · exact .inr h
    · simp only [List.mem_append, List.mem_cons, List.not_mem_nil, or_false]
      constructor
      · rintro ((h | h) | h)
        · exact .inl h
        · exact .inr (.inl h)
        · exact .inr (.inr h)
      · rintro (h | h | h)
        · exact .inl (.inl h)
        · exact .inl (.inr h)
        · exact .inr h
theorem dd_rising : ∀ (l acc : List Nat), l.Pairwise (· ≤ ·) → acc.Pairwise (· < ·) → (∀ a ∈ acc, ∀ b ∈ l, a ≤ b) → (l.foldl ddStep acc).Pairwise (· < ·)
  | [], _, _, h, _ => h
  | x :: l, acc, hl, ha, hm => by
    have hl2 := List.pairwise_cons.1 hl
    rw [List.foldl_cons]
    unfold ddStep
    split
    · exact dd_rising l acc hl2.2 ha fun a h1 b h2 => hm a h1 b (List.mem_cons_of_mem _ h2)
    · rename_i hne
      refine dd_rising l _ hl2.2 ?_ ?_
      · rw [List.pairwise_append]
        refine ⟨ha, List.pairwise_singleton _ _, fun a h1 b h2 => ?_⟩
        obtain rfl := List.mem_singleton.1 h2
        have h3 := hm a h1 b (List.mem_cons_self ..)
        rcases Nat.lt_or_ge a b with h4 | h4
        · exact h4
        · exfalso
          obtain rfl : a = b := by omega
          obtain ⟨z, hz⟩ : ∃ z, acc.getLast? = some z := by
            cases h5 : acc.getLast? with
            | some z => exact ⟨z, rfl⟩
            | none => rw [List.getLast?_eq_none_iff.1 h5] at h1; cases h1
          have hz2 : z ∈ acc := List.mem_of_getLast? hz
          have h6 := hm z hz2 a (List.mem_cons_self ..)
          obtain ⟨ini, rfl⟩ : ∃ ini, acc = ini ++ [z] := by
            obtain ⟨ini, h7⟩ := List.getLast?_eq_some_iff.1 hz
            exact ⟨ini, h7⟩
          rcases List.mem_append.1 h1 with h8 | h8
          · have := (List.pairwise_append.1 ha).2.2 a h8 z (List.mem_singleton.2 rfl)
            omega
          · obtain rfl := List.mem_singleton.1 h8
            exact hne hz
      · intro a h1 b h2
        rcases List.mem_append.1 h1 with h3 | h3
        · exact hm a h3 b (List.mem_cons_of_mem _ h2)
        · rw [List.mem_singleton.1 h3]; exact hl2.1 b h2
/-- a number, as an element of a row -/
def byteE : Elem Nat := ⟨fun x => [.int .u8 (x : Int)], 1, by decide, fun _ => rfl, fun _ u hu => by rcases List.mem_singleton.1 hu with rfl; rfl⟩
theorem byteE_cells (l : List Nat) : byteE.cells l = BB l := by
  unfold Elem.cells BB
  induction l with
  | nil => rfl
  | cons x l ih => rw [List.flatMap_cons, ih]; rfl
theorem byte_own {w : World} {base : Nat} {v : Value} {l : List Nat} : Own w base 5 v (BB l) ↔ byteE.Own w base 5 v l := by
  unfold Own Elem.Own OwnK
  rw [byteE_cells, BB_length]
  exact Iff.rfl
end Go.Proofs.YtfkfpanhbanljaaGreat.SortY
