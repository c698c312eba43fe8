/- Layer 36 (net): the document's At, Send, Without. -/
import Derived.Test.YtpckfnafcmifpaaNetSpoils
namespace Go.Proofs.Ytpckfnafcmifpaa.Net
open Go.RowKit Go.Proofs.Ytpckfnafcmifpaa.Mem

theorem rone_info : (Try.prog.info? 61).map (fun i => (i.zero, i.size, i.bytes)) = some (some (.agg #[.int .i64 0, .slice none 0 0, .bool false]), 3, 40) := by kernel_rfl
theorem rat_any (X : Option Addr) (n c : Nat) (pick : Int) (w : World) (hn : n ≤ 512) : Calls Try.prog 20 #[.slice X n c, .int .i64 pick] w fun e w' => e = .returned (.int .i64 (atI n pick)) ∧ w = w' := by
  unfold atI
  by_cases h0 : n = 0
  · subst h0
    rw [if_pos rfl]
    go_enter Try.func20, Try.ntmps20
    go_wp2
    go_ret
    exact ⟨rfl, rfl⟩
  · rw [if_neg h0]
    have hne : ((n : Int) == 0) = false := by simp; omega
    obtain ⟨q1, q2, q3, q4⟩ := Seal.tmod_pos pick (n : Int) (by omega)
    obtain ⟨p1, p2, p3, p4⟩ := Seal.tmod_pos (pick.tmod (n : Int) + n) (n : Int) (by omega)
    have hfin : (pick.tmod (n : Int) + n).tmod (n : Int) = pick % (n : Int) := by
      have hpos : 0 ≤ (pick.tmod (n : Int) + n).tmod (n : Int) := Int.tmod_nonneg _ (by omega)
      rw [p3 hpos, Int.add_emod_right]
      rcases Int.lt_or_le (pick.tmod (n : Int)) 0 with h | h
      · have := q4 h
        rw [← Int.add_emod_right, this, Int.emod_emod_of_dvd _ (Int.dvd_refl _)]
      · rw [q3 h, Int.emod_emod_of_dvd _ (Int.dvd_refl _)]
    have HF := kept hfin
    generalize ht : (pick.tmod (n : Int) + n).tmod (n : Int) = r at *
    have ht2 : (pick.tmod (n : Int) + (n : Int)).tmod (n : Int) = r := ht
    generalize hs : pick.tmod (n : Int) = s at *
    clear hfin p3 p4 q3 q4
    go_enter Try.func20, Try.ntmps20
    go_wp2
    go_ret
    rw [← HF.out]
    exact ⟨rfl, rfl⟩
/-- rows of the document's, made anew -/
def RNew (w : World) (ys : List OneM) (v : Value) (w' : World) : Prop := ∃ X c, v = .slice X ys.length c ∧ oneE.Own w' w.heap.size 61 (.slice X ys.length c) ys ∧ Below w.heap.size w w'
set_option maxRecDepth 100000 in
theorem rsend_full (X : Option Addr) (n c : Nat) (tt : Int) (A : Option Addr) (m d : Nat) (w : World) (h : 512 ≤ n) (hn : n ≤ 9223372036854775807) : Calls Try.prog 24 #[.slice X n c, .int .i64 tt, .slice A m d] w fun e w' => e = .returned (.tuple #[.slice X n c, .int .i64 8]) ∧ w = w' := by
  go_enter Try.func24, Try.ntmps24
  go_wp2
  go_ret2
  exact ⟨rfl, rfl⟩
set_option maxRecDepth 100000 in
theorem rsend_yes (X : Option Addr) (c : Nat) (ys : List OneM) (tt : Int) (A : Option Addr) (b : List Nat) (d : Nat) (w : World) (h : ys.length < 512) (hr : oneE.Rd w w.heap.size X ys) :
    Calls Try.prog 24 #[.slice X ys.length c, .int .i64 tt, .slice A b.length d] w fun e w' => ∃ v, e = .returned (.tuple #[v, .int .i64 0]) ∧ RNew w (ys ++ [⟨tt, A, b, d, false⟩]) v w' := by
  have hown1 : oneE.Own (w.alloc (.cells #[] 61)) w.heap.size 61 (.slice (some ⟨w.heap.size, 0, none⟩) 0 0) [] := Elem.Own.new oneE w w.heap.size 61 [] (Nat.le_refl _) (by simp)
  have hr1 := hr.alloc (Nat.le_refl _) (.cells #[] 61)
  have hbs : (([] : List OneM).length + ys.length) * 40 ≤ 140737488355328 := by simp; omega
  have hb0 : Below w.heap.size w (w.alloc (.cells #[] 61)) := (Below.refl _ _).alloc (Nat.le_refl _) _
  go_enter Try.func24, Try.ntmps24
  go_wp2_with (at_builtin; first
    | (refine wpl_appE _ oneE rfl (.tmp 12) (.tmp 13) 52 rfl w.heap.size 61 Try.underlying52 rone_info rfl _ [] rfl hown1 w.heap.size X _ c ys rfl rfl hr1 hbs (by decide) (by simp) ?_; intro A2 c2 w2 r2 hr2 hown2 hb2; obtain rfl : r2 = ys := hr2.out; have hB2 : Below w.heap.size w w2 := hb0.trans hb2; have hown3 := hown2.alloc (.cells #[.int .i64 tt, .slice A b.length d, .bool false] 61); have hone : oneE.Rd (w2.alloc (.cells #[.int .i64 tt, .slice A b.length d, .bool false] 61)) (w2.heap.size + 1) (some ⟨w2.heap.size, 0, none⟩) [⟨tt, A, b, d, false⟩] := Rd.new w2 (OneM.cells ⟨tt, A, b, d, false⟩) _; have hbs2 : (r2.length + [(⟨tt, A, b, d, false⟩ : OneM)].length) * 40 ≤ 140737488355328 := (by simp; omega); have hB3 : Below w.heap.size w (w2.alloc (.cells #[.int .i64 tt, .slice A b.length d, .bool false] 61)) := hB2.alloc hB2.size _; have hsz3 := hB3.size)
    | (refine wpl_appE _ oneE rfl (.tmp 14) (.tmp 18) 52 rfl w.heap.size 61 Try.underlying52 rone_info rfl _ r2 rfl hown3 _ _ _ _ [⟨tt, A, b, d, false⟩] rfl rfl hone hbs2 (by decide) hsz3 ?_; intro A4 c4 w4 r4 hr4 hown4 hb4; have HR4 := kept hr4.out; have HO4 := kept hown4; have HB4 := kept (hB3.trans hb4); clear hr4 hown4 hb4))
  go_ret2
  exact ⟨_, rfl, A4, c4, by rw [HR4.out]; rfl, by rw [← HR4.out]; exact HO4.out, HB4.out⟩
/-- all but the one at a place -/
def withoutM {α : Type} (l : List α) (k : Int) : List α := if 0 ≤ k then l.eraseIdx k.toNat else l
theorem without_take {α : Type} (l : List α) (k : Int) (i : Nat) {x : α} (hx : l[i]? = some x) : withoutM (l.take (i + 1)) k = if (i : Int) = k then withoutM (l.take i) k else withoutM (l.take i) k ++ [x] := by
  have hi : i < l.length := (List.getElem?_eq_some_iff.1 hx).1
  have ht : l.take (i + 1) = l.take i ++ [x] := by rw [List.take_add_one, hx]; rfl
  unfold withoutM
  by_cases h0 : 0 ≤ k
  · rw [if_pos h0, if_pos h0, ht]
    by_cases hk : (i : Int) = k
    · rw [if_pos hk]
      have e : k.toNat = i := by omega
      rw [e, List.eraseIdx_append_of_length_le (by rw [List.length_take]; omega)]
      have e2 : i - (l.take i).length = 0 := by rw [List.length_take]; omega
      rw [e2]
      have e3 : (l.take i).eraseIdx i = l.take i := List.eraseIdx_of_length_le (by rw [List.length_take]; omega)
      rw [e3]; simp
    · rw [if_neg hk]
      rcases Nat.lt_or_ge k.toNat (l.take i).length with h1 | h1
      · rw [List.eraseIdx_append_of_lt_length h1]
      · have h2 : (l.take i).length = i := by rw [List.length_take]; omega
        rw [List.eraseIdx_of_length_le h1, List.eraseIdx_append_of_length_le h1, List.eraseIdx_of_length_le (by simp; omega)]
  · rw [if_neg h0, if_neg h0, ht, if_neg (by omega)]
set_option maxRecDepth 100000 in
theorem rwithout_any (X : Option Addr) (c : Nat) (ys : List OneM) (k : Int) (w : World) (h : ys.length ≤ 512) (hr : oneE.Rd w w.heap.size X ys) (hk : -9223372036854775808 ≤ k ∧ k ≤ 9223372036854775807) :
    Calls Try.prog 26 #[.slice X ys.length c, .int .i64 k] w fun e w' => ∃ v, e = .returned v ∧ RNew w (withoutM ys k) v w' := by
  go_enter Try.func26, Try.ntmps26
  go_wp2
  go_loopw [5, 6] (fun v i wr => ∃ (j : Nat) (D : Option Addr) (cc : Nat) (r : List OneM), j ≤ ys.length ∧ i = .int .i64 (j : Int) ∧ v = .slice D r.length cc ∧ Kept (r = withoutM (ys.take j) k) ∧ oneE.Own wr w.heap.size 61 (.slice D r.length cc) r ∧ Below w.heap.size w wr) (fun _ i _ => ys.length - (intOf i).toNat)
  case atStart => exact ⟨0, none, 0, [], Nat.zero_le _, rfl, rfl, ⟨by unfold withoutM; split <;> rfl⟩, Elem.Own.nilv _ _ _ _, Below.refl _ _⟩
  case round =>
    obtain ⟨j, D, cc, r, hj, rfl, rfl, hrr, hown, hb⟩ := hrel
    have hsw := hb.size
    by_cases hlt : j < ys.length
    · obtain ⟨x, hx⟩ : ∃ x, ys[j]? = some x := ⟨_, List.getElem?_eq_getElem hlt⟩
      obtain ⟨b, o, rfl, hbb, hc⟩ := (hr.next hb).at_ hx
      have hwt := without_take ys k j hx
      rw [← hrr.out] at hwt
      have HWT := kept hwt
      have hrl : r.length ≤ 512 := by
        have : r.length ≤ (ys.take j).length := by
          rw [hrr.out]; unfold withoutM; split
          · exact List.length_eraseIdx_le _ _
          · exact Nat.le_refl _
        rw [List.length_take] at this
        omega
      obtain ⟨tt, xA, xb, xc, bad⟩ := x
      have c0 : wr.cell? ⟨b, o + j * 3, none⟩ = some (.int .i64 tt) := hc 0 _ rfl
      have c1 : wr.cell? ⟨b, o + j * 3 + 1, none⟩ = some (.slice xA xb.length xc) := hc 1 _ rfl
      have c2 : wr.cell? ⟨b, o + j * 3 + 2, none⟩ = some (.bool bad) := hc 2 _ rfl
      have hjn : (j : Int) < (ys.length : Int) := by omega
      have HO := kept hown
      have HB := kept hb
      clear hx hc hwt hrr hown hb
      by_cases hjk : (j : Int) = k
      · have hne : ((j : Int) != k) = false := by simp [hjk]
        go_wp2
        go_roundw
        case rel => exact ⟨j + 1, D, cc, r, by omega, by go_num, rfl, ⟨by rw [HWT.out, if_pos hjk]⟩, HO.out, HB.out⟩
        case measure => simp [intOf]; omega
      · have hne : ((j : Int) != k) = true := by simp [hjk]
        have hone : oneE.Rd (wr.alloc (.cells #[.int .i64 tt, .slice xA xb.length xc, .bool bad] 61)) (wr.heap.size + 1) (some ⟨wr.heap.size, 0, none⟩) [⟨tt, xA, xb, xc, bad⟩] := Rd.new wr (OneM.cells ⟨tt, xA, xb, xc, bad⟩) _
        have hbs2 : (r.length + [(⟨tt, xA, xb, xc, bad⟩ : OneM)].length) * 40 ≤ 140737488355328 := by simp; omega
        have hown3 := HO.out.alloc (.cells #[.int .i64 tt, .slice xA xb.length xc, .bool bad] 61)
        have hB3 : Below w.heap.size w (wr.alloc (.cells #[.int .i64 tt, .slice xA xb.length xc, .bool bad] 61)) := HB.out.alloc hsw _
        have hsz3 := hB3.size
        go_wp2_with (at_builtin; refine wpl_appE _ oneE rfl (.tmp 16) (.tmp 21) 52 rfl w.heap.size 61 Try.underlying52 rone_info rfl _ r rfl hown3 _ _ _ _ [⟨tt, xA, xb, xc, bad⟩] rfl rfl hone hbs2 (by decide) hsz3 ?_; intro A4 c4 w4 r4 hr4 hown4 hb4; have HR4 := kept hr4.out; have HO4 := kept hown4; have HB4 := kept (hB3.trans hb4); clear hr4 hown4 hb4)
        go_roundw
        case rel => exact ⟨j + 1, A4, c4, r4, by omega, by go_num, rfl, ⟨by rw [HR4.out, HWT.out, if_neg hjk]⟩, HO4.out, HB4.out⟩
        case measure => simp [intOf]; omega
    · have hz : r = withoutM ys k := by rw [hrr.out, List.take_of_length_le (by omega)]
      have HZ := kept hz
      have HO := kept hown
      have HB := kept hb
      clear hz hrr hown hb
      go_wp2
      go_ret
      exact ⟨_, rfl, D, cc, by rw [HZ.out]; rfl, by rw [← HZ.out]; exact HO.out, HB.out⟩
end Go.Proofs.Ytpckfnafcmifpaa.Net
