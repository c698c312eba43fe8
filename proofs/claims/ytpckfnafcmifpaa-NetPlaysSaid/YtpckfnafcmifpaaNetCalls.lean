/- Layer 36 (net): the calls that read, Clone, Equal. -/
import Derived.Test.YtpckfnafcmifpaaNetMem
import Derived.Deep.RegionWith
import Derived.Deep.RegionHeld3
namespace Go.Proofs.Ytpckfnafcmifpaa.Net
open Go.RowKit Go.Proofs.Ytpckfnafcmifpaa.Mem

theorem bnx {w w1 w2 : World} (h : Below w.heap.size w w1) (h2 : Below w1.heap.size w1 w2) : Below w.heap.size w w2 := h.trans (h2.mono h.size)
theorem bclone_any (A : Option Addr) (n c : Nat) (l : List Nat) (w : World) (hn : n = l.length) (hr : Rd w w.heap.size A (BB l)) (hsz : l.length ≤ 140737488355328) :
    Calls Try.prog 46 #[.slice A n c] w (Gives w l) := by
  subst hn
  have hnil := fun (W : World) (a : Option Addr) (m d : Nat) => Lib.run_eql_slice_nil (P := Try.prog) W 54 5 a m d 0 0 Try.underlying54
  rcases A with _ | ad
  · obtain rfl : l = [] := by
      rcases l with _ | ⟨x, l⟩
      · rfl
      · obtain ⟨b, o, e, _⟩ := hr (by simp [BB]); cases e
    go_enter Try.func46, Try.ntmps46
    go_wp2
    go_ret
    exact ⟨none, 0, rfl, Own.nilv _ _ _, Nat.le_refl _, Below.refl _ _⟩
  · have hown1 : Own (w.alloc (.cells #[] 5)) w.heap.size 5 (.slice (some ⟨w.heap.size, 0, none⟩) 0 0) (BB []) := Own.new w w.heap.size 5 [] (Nat.le_refl _) (by simp)
    have hr1 := hr.alloc (Nat.le_refl _) (.cells #[] 5)
    have hbs : ([] : List Nat).length + l.length ≤ 140737488355328 := by simpa using hsz
    go_enter Try.func46, Try.ntmps46
    go_wp2_with (at_builtin; refine wpl_appC rfl (.tmp 5) (.tmp 6) rfl w.heap.size _ [] rfl hown1 w.heap.size (some ad) _ c l rfl rfl hr1 hbs (by simp) ?_; intro A2 c2 w2 r2 hr2 hown2 hc2 hb2)
    go_ret
    obtain rfl : r2 = l := hr2.out
    exact ⟨A2, c2, rfl, hown2, hc2, ((Below.refl _ _).alloc (Nat.le_refl _) _).trans hb2⟩
theorem len_any (p : Value) (N : Nat) (w : World) (h : NLen w p N) : Calls Try.prog 31 #[p] w fun e w' => e = .returned (.int .i64 (N : Int)) ∧ w = w' := by
  rcases h with ⟨rfl, rfl⟩ | ⟨g, X, c, t, rfl, hk⟩
  · go_enter Try.func31, Try.ntmps31
    go_wp2
    go_ret
    exact ⟨rfl, rfl⟩
  · have h0 : w.cell? ⟨g, 0, none⟩ = some (.slice X N c) := hk.cell rfl
    have hlt := hk.lt
    go_enter Try.func31, Try.ntmps31
    go_wp2
    go_ret
    exact ⟨rfl, rfl⟩
theorem tmod_at (pick : Int) (N : Nat) (h : 0 < N) : (pick.tmod (N : Int) < 0 → pick.tmod (N : Int) + N = pick % (N : Int)) ∧ (¬ pick.tmod (N : Int) < 0 → pick.tmod (N : Int) = pick % (N : Int)) := by
  obtain ⟨h1, h2, h3, h4⟩ := Seal.tmod_pos pick (N : Int) (by omega)
  exact ⟨h4, fun h => h3 (by omega)⟩
theorem at_any (p : Value) (N : Nat) (pick : Int) (w : World) (h : NLen w p N) (hN : N ≤ 512) : Calls Try.prog 45 #[p, .int .i64 pick] w fun e w' => e = .returned (.int .i64 (atI N pick)) ∧ w = w' := by
  have C := kept (len_any p N w h)
  unfold atI
  by_cases h0 : N = 0
  · subst h0
    rw [if_pos rfl]
    go_enter Try.func45, Try.ntmps45
    go_wp2_with fail
    refine C.out.mono ?_
    rintro e w' ⟨rfl, rfl⟩
    go_wp2
    go_ret
    exact ⟨rfl, rfl⟩
  · rw [if_neg h0]
    obtain ⟨h1, h2⟩ := tmod_at pick N (by omega)
    obtain ⟨q1, q2, -, -⟩ := Seal.tmod_pos pick (N : Int) (by omega)
    have hne : ((N : Int) == 0) = false := by simp; omega
    generalize pick % (N : Int) = r at *
    generalize ht : pick.tmod (N : Int) = t at *
    by_cases hneg : t < 0
    · have h3 := h1 hneg
      have H3 := kept h3
      clear h1 h2 h3
      go_enter Try.func45, Try.ntmps45
      go_wp2_with fail
      refine C.out.mono ?_
      rintro e w' ⟨rfl, hw'⟩
      subst hw'
      go_wp2
      go_ret
      rw [← H3.out]
      exact ⟨rfl, rfl⟩
    · have h3 := h2 hneg
      have H3 := kept h3
      clear h1 h2 h3
      go_enter Try.func45, Try.ntmps45
      go_wp2_with fail
      refine C.out.mono ?_
      rintro e w' ⟨rfl, hw'⟩
      subst hw'
      go_wp2
      go_ret
      rw [← H3.out]
      exact ⟨rfl, rfl⟩
end Go.Proofs.Ytpckfnafcmifpaa.Net
