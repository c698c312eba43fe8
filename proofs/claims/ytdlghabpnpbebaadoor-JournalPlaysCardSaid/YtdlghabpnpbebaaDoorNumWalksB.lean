/- The walks of layer 3, continued: the reference's Append; Read, twice. -/
import Derived.Test.YtdlghabpnpbebaaDoorNumWalks
import Derived.Deep.QuietTactic
import Derived.BigQuiet
namespace Go.Proofs.YtdlghabpnpbebaaDoor.Num
open Go.RowKit Go.Proofs.YtdlghabpnpbebaaDoor.Shift Go.Proofs.YtdlghabpnpbebaaDoor.Mem

theorem rappend_any (A : Option Addr) (n c : Nat) (l : List Nat) (v : Nat) (w : World) (hn : n = l.length) (hv : v < 18446744073709551616) (hr : Rd w w.heap.size A (BB l)) (hsz : l.length ≤ 140737488355232) :
    Calls Tryd.prog 68 #[.slice A n c, .int .u64 v] w (Gives w (l ++ numB v)) := by
  have hk := lenB_le v
  generalize hkk : lenB v = k at *
  have hkk' := Lib.hid hkk
  clear hkk
  subst hn
  have hown1 : Own (w.alloc (.cells #[] 5)) w.heap.size 5 (.slice (some ⟨w.heap.size, 0, none⟩) 0 0) (BB []) := Own.new w w.heap.size 5 [] (Nat.le_refl _) (by simp)
  have hr1 := hr.alloc (Nat.le_refl _) (.cells #[] 5)
  have hz1 : ([] : List Nat).length + l.length ≤ 140737488355328 := by simp; omega
  go_enter Tryd.func68, Tryd.ntmps68
  go_wp2_with (first
    | (go_at_call 79; refine (rlen_any _ _ hv).mono ?_; rintro e w' ⟨rfl, rfl⟩; rw [hkk'.out])
    | (at_builtin; refine wpl_app rfl (.tmp 8) (.tmp 9) rfl w.heap.size _ [] rfl hown1 w.heap.size A _ c l rfl rfl hr1 hz1 (by simp) ?_; intro A2 c2 w2 r2 hr2 hown2 hg2 hb2; have hle2 : r2.length ≤ 140737488355232 := by rw [hr2.out]; simpa using hsz)
    | (at_builtin; have hz2 : r2.length + [k].length ≤ 140737488355328 := by (simp; omega)
       refine wpl_app rfl (.tmp 13) (.tmp 16) rfl w.heap.size _ r2 rfl (hown2.alloc _) _ _ _ _ [k] rfl rfl (rd_one w2 k) hz2 (by (have := hb2.size; simp at this ⊢; omega)) ?_; intro A3 c3 w3 r3 hr3 hown3 hg3 hb3))
  have hb02 : Below w.heap.size w w2 := ((Below.refl _ _).alloc (Nat.le_refl _) _).trans hb2
  have hb03 : Below w.heap.size w w3 := (hb02.alloc hb02.size _).trans hb3
  have hall : Hid (r3 ++ hiB v k = l ++ numB v) := by
    show r3 ++ hiB v k = l ++ numB v
    rw [hr3.out, hr2.out]
    unfold numB
    rw [hkk'.out]
    simp
  clear hg2 hg3 hb2 hb3 hr2 hr3 hown2 hown1 hr1 hz1 hz2 hle2 hb02
  go_loopw [5, 7] (fun x i wr => ∃ (j : Nat) (D : Option Addr) (cc : Nat) (r : List Nat), j ≤ k ∧ i = .int .i64 ((j : Int) - 1) ∧ x = .slice D r.length cc ∧ Hid (r ++ hiB v j = l ++ numB v) ∧ Own wr w.heap.size 5 (.slice D r.length cc) (BB r) ∧ Below w.heap.size w wr) (fun _ i _ => (intOf i + 1).toNat)
  case atStart => exact ⟨k, A3, c3, r3, Nat.le_refl _, rfl, rfl, hall, hown3, hb03⟩
  case round =>
    obtain ⟨j, D, cc, r, hj, rfl, rfl, hr', hown, hb⟩ := hrel
    have hrl : r.length ≤ 140737488355300 := by
      have := congrArg List.length hr'.out
      rw [List.length_append, List.length_append, numB_length, hkk'.out] at this
      omega
    have hsw := hb.size
    by_cases h0 : j = 0
    · subst h0
      go_wp2
      go_ret
      have : r = l ++ numB v := by simpa [hiB] using hr'.out
      rw [← this]
      obtain ⟨_, _, he, hle, _⟩ := hown.form
      exact ⟨D, cc, rfl, hown, by rw [BB_length] at hle; injection he with _ _ h3; omega, hb⟩
    · obtain ⟨j, rfl⟩ : ∃ t, j = t + 1 := ⟨j - 1, by omega⟩
      have hc : ((j + 1 : Nat) : Int) - 1 = (j : Int) := by omega
      rw [hc]
      have hby : byteI v (j : Int) = byteN v j := byteI_nat (by omega)
      have Hby := Lib.hid hby
      clear hc hby h0
      have hz4 : r.length + [byteN v j].length ≤ 140737488355328 := by simp; omega
      go_wp2_with (first
        | (go_at_call 80; refine (rbyte_any v _ _ hv).mono ?_; rintro e w' ⟨rfl, rfl⟩; rw [Hby.out])
        | (at_builtin; refine wpl_app rfl (.tmp 24) (.tmp 28) rfl w.heap.size _ r rfl (hown.alloc _) _ _ _ _ [byteN v j] rfl rfl (rd_one wr (byteN v j)) hz4 (by (simp; omega)) ?_; intro A4 c4 w4 r4 hr4 hown4 hg4 hb4))
      go_roundw
      case rel =>
        refine ⟨j, A4, c4, r4, by omega, rfl, rfl, ?_, hown4, (hb.alloc hsw _).trans hb4⟩
        show r4 ++ hiB v j = l ++ numB v
        rw [hr4.out, ← hr'.out]
        simp [hiB]
      case measure => simp [intOf]
/-- the answer of a reading as the results are laid -/
def outV (o : RdOut) : Ending := .returned (.tuple #[.int .u64 (o.v : Int), .int .i64 (o.next : Int), .int .i64 (o.err : Int)])
theorem get_at {w : World} {B : Nat} {A : Option Addr} {l : List Nat} (h : Rd w B A (BB l)) {k : Nat} (hk : k < l.length) : ∃ b o, A = some ⟨b, o, none⟩ ∧ b < B ∧ ∀ j, j < l.length → w.cell? ⟨b, o + j, none⟩ = some (.int .u8 (l.getD j 0 : Int)) := by
  obtain ⟨b, o, e, hb, hc⟩ := h (by intro e; have := congrArg List.length e; rw [BB_length] at this; have h0 : l.length = 0 := this; omega)
  exact ⟨b, o, e, hb, fun j hj => hc j _ (BB_get l j hj)⟩
theorem read_short (A : Option Addr) (c : Nat) (l : List Nat) (at_ : Int) (w : World) (h : at_ < 0 ∨ (l.length : Int) ≤ at_) :
    Calls Tryd.prog 75 #[.slice A l.length c, .int .i64 at_] w fun e w' => e = outV (readNum l at_) ∧ w = w' := by
  unfold readNum readAt
  by_cases h1 : at_ < 0
  · have hd : decide (at_ < 0) = true := by simpa using h1
    rw [if_pos h1]
    go_enter Tryd.func75, Tryd.ntmps75
    go_wp2
    go_ret3
    exact ⟨rfl, rfl⟩
  · rw [if_neg h1]
    obtain ⟨k, rfl⟩ := Int.eq_ofNat_of_zero_le (Int.not_lt.1 h1)
    rw [Int.toNat_natCast]
    by_cases h2 : l.length < k
    · rw [if_pos h2]
      go_enter Tryd.func75, Tryd.ntmps75
      go_wp2
      go_ret3
      exact ⟨rfl, rfl⟩
    · have h3 : k = l.length := by omega
      rw [if_neg h2, if_pos h3]
      have hb : ((k : Int) == (l.length : Int)) = true := by simp; omega
      have H3 := Lib.hid h3
      have hk1 : k ≤ l.length := by omega
      have hk2 : l.length ≤ k := by omega
      clear h3
      go_enter Tryd.func75, Tryd.ntmps75
      go_wp2
      go_ret3
      exact ⟨rfl, rfl⟩
/-- the outcomes, each by what the bytes are -/
theorem at_bad {l : List Nat} {k : Nat} (hk : k < l.length) (h : badForm l k = true) : readAt l k = ⟨0, 0, 4⟩ := by
  unfold readAt; rw [if_neg (by omega), if_neg (by omega), if_pos h]
theorem at_few {l : List Nat} {k x : Nat} (hk : k < l.length) (hx : l.getD k 0 = x) (hb : badForm l k = false) (h : l.length < k + 1 + x) : readAt l k = ⟨0, 0, 2⟩ := by
  unfold readAt; rw [if_neg (by omega), if_neg (by omega), hb, if_neg (by simp), hx, if_pos h]
theorem at_ok {l : List Nat} {k x : Nat} (hk : k < l.length) (hx : l.getD k 0 = x) (hb : badForm l k = false) (h : k + 1 + x ≤ l.length) : readAt l k = ⟨beN ((l.drop (k + 1)).take x), k + 1 + x, 0⟩ := by
  unfold readAt; rw [if_neg (by omega), if_neg (by omega), hb, if_neg (by simp), hx, if_neg (by omega)]; unfold readV; rw [hx]
theorem bad_of {l : List Nat} {k x y : Nat} (hx : l.getD k 0 = x) (hy : l.getD (k + 1) 0 = y) : badForm l k = (decide (8 < x) || (decide (0 < x) && (decide (k + 1 < l.length) && decide (y = 0)))) := by
  unfold badForm; rw [hx, hy]
theorem below_drewN' (w : World) (n : Nat) : Below w.heap.size w (w.drewN n) := below_drewN (Below.refl _ _) n
theorem read_edge (b o N k x : Nat) (w : World) (hN : N = k + 1) (hx : w.cell? ⟨b, o + k, none⟩ = some (.int .u8 (x : Int))) (hxb : x < 256) (hk64 : k ≤ 140737488355328) :
    Calls Tryd.prog 75 #[.slice (some ⟨b, o, none⟩) N (k + 1), .int .i64 (k : Int)] w fun e w' => e = outV (if 8 < x then ⟨0, 0, 4⟩ else if 0 < x then ⟨0, 0, 2⟩ else ⟨0, k + 1, 0⟩) ∧ Below w.heap.size w w' := by
  subst hN
  by_cases h8 : 8 < x
  · rw [if_pos h8]
    go_enter Tryd.func75, Tryd.ntmps75
    go_wp2
    go_quiet (fail)
    go_wp2
    go_ret3
    exact ⟨rfl, below_drewN' _ _⟩
  · rw [if_neg h8]
    by_cases h0 : 0 < x
    · rw [if_pos h0]
      go_enter Tryd.func75, Tryd.ntmps75
      go_wp2
      go_quiet (fail)
      go_wp2
      go_ret3
      exact ⟨rfl, below_drewN' _ _⟩
    · rw [if_neg h0]
      obtain rfl : x = 0 := by omega
      go_enter Tryd.func75, Tryd.ntmps75
      go_wp2
      go_quiet (fail)
      go_wp2
      refine wp_loop_rounds 1 ?_
      rw [rounds_succ]
      go_wp2
      go_ret3
      exact ⟨rfl, below_drewN' _ _⟩
theorem read_bad (b o N c k x y : Nat) (w : World) (hc : N ≤ 140737488355328) (hk : k + 1 < c) (hkN : k < N) (hx : w.cell? ⟨b, o + k, none⟩ = some (.int .u8 (x : Int))) (hxb : x < 256)
    (h : 8 < x ∨ (0 < x ∧ k + 1 < N ∧ y = 0 ∧ w.cell? ⟨b, o + (k + 1), none⟩ = some (.int .u8 (y : Int)))) :
    Calls Tryd.prog 75 #[.slice (some ⟨b, o, none⟩) N c, .int .i64 (k : Int)] w fun e w' => e = outV ⟨0, 0, 4⟩ ∧ Below w.heap.size w w' := by
  have hck : ¬ c = k + 1 := by omega
  have hne : ((k : Int) == (N : Int)) = false := by simp; omega
  by_cases h8 : 8 < x
  · clear h
    go_enter Tryd.func75, Tryd.ntmps75
    go_wp2
    go_quiet (fail)
    go_wp2
    go_ret3
    exact ⟨rfl, below_drewN' _ _⟩
  · obtain ⟨h0, h1, rfl, hy⟩ : 0 < x ∧ k + 1 < N ∧ y = 0 ∧ w.cell? ⟨b, o + (k + 1), none⟩ = some (.int .u8 (y : Int)) := by
      rcases h with h | h
      · exact absurd h h8
      · exact h
    have h1' : 0 < N - (k + 1) := by omega
    go_enter Tryd.func75, Tryd.ntmps75
    go_wp2
    go_quiet (fail)
    go_wp2
    go_ret3
    exact ⟨rfl, below_drewN' _ _⟩
theorem read_few (b o N c k x y : Nat) (w : World) (hc : N ≤ 140737488355328) (hk : k + 1 < c) (hkN : k < N) (hx : w.cell? ⟨b, o + k, none⟩ = some (.int .u8 (x : Int))) (h8 : x ≤ 8) (h0 : 0 < x)
    (hy : k + 1 < N → 0 < y ∧ y < 256 ∧ w.cell? ⟨b, o + (k + 1), none⟩ = some (.int .u8 (y : Int))) (hf : N < k + 1 + x) :
    Calls Tryd.prog 75 #[.slice (some ⟨b, o, none⟩) N c, .int .i64 (k : Int)] w fun e w' => e = outV ⟨0, 0, 2⟩ ∧ Below w.heap.size w w' := by
  have hck : ¬ c = k + 1 := by omega
  have hne : ((k : Int) == (N : Int)) = false := by simp; omega
  have hf1 : N - (k + 1) < x := by omega
  by_cases h1 : k + 1 < N
  · obtain ⟨hy0, hy1, hyc⟩ := hy h1
    have hyn : ((y : Int) == 0) = false := by simp; omega
    have h1' : 0 < N - (k + 1) := by omega
    clear hy
    go_enter Tryd.func75, Tryd.ntmps75
    go_wp2
    go_quiet (fail)
    go_wp2
    go_ret3
    exact ⟨rfl, below_drewN' _ _⟩
  · clear hy
    have h1' : N - (k + 1) ≤ 0 := by omega
    go_enter Tryd.func75, Tryd.ntmps75
    go_wp2
    go_quiet (fail)
    go_wp2
    go_ret3
    exact ⟨rfl, below_drewN' _ _⟩
theorem take_snoc (m : List Nat) (j : Nat) (h : j < m.length) : m.take (j + 1) = m.take j ++ [m.getD j 0] := by
  rw [List.take_succ_eq_append_getElem h]; simp [List.getD, h]
theorem beN_take (m : List Nat) (j : Nat) (h : j < m.length) : beN (m.take (j + 1)) = beN (m.take j) * 256 + m.getD j 0 := by rw [take_snoc m j h, beN_snoc]
end Go.Proofs.YtdlghabpnpbebaaDoor.Num
