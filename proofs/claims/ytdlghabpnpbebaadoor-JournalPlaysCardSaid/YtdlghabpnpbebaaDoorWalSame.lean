/- Layer 23 (wal): the walks of the document's Same and Few, of equal. -/
import Derived.Test.YtdlghabpnpbebaaDoorWalRScan
import Derived.Deep.RegionHeld3
import Derived.Deep.QuietTactic
import Derived.BigQuiet
namespace Go.Proofs.YtdlghabpnpbebaaDoor.Wal
open Go.RowKit Go.Proofs.YtdlghabpnpbebaaDoor.Mem Go.Proofs.YtdlghabpnpbebaaDoor.Num Go.Proofs.YtdlghabpnpbebaaDoor.Crc Go.Proofs.YtdlghabpnpbebaaDoor.Shift

theorem take_snoc_eq {α : Type} {a b : List α} {j : Nat} {x y : α} (hx : a[j]? = some x) (hy : b[j]? = some y) (h : a.take j = b.take j) (hxy : x = y) : a.take (j + 1) = b.take (j + 1) := by
  obtain ⟨h1, e1⟩ := List.getElem?_eq_some_iff.1 hx
  obtain ⟨h2, e2⟩ := List.getElem?_eq_some_iff.1 hy
  rw [List.take_succ_eq_append_getElem h1, List.take_succ_eq_append_getElem h2, h, e1, e2, hxy]
set_option maxRecDepth 100000 in
set_option maxHeartbeats 4000000 in
theorem rsame_any (X Y : Option Addr) (n m c d : Nat) (ps qs : List Part) (w : World) (hn : n = ps.length) (hm : m = qs.length) (r1 : RdParts w w.heap.size X ps) (r2 : RdParts w w.heap.size Y qs) (hsz : ps.length ≤ 9223372036854775807) (hsz2 : qs.length ≤ 9223372036854775807) :
    Calls Tryd.prog 21 #[.slice X n c, .slice Y m d] w fun e w' => e = .returned (.bool (decide (bodies ps = bodies qs))) ∧ ∃ q, w' = w.drewN q := by
  subst hn hm
  by_cases hlen : ps.length = qs.length
  · obtain ⟨N, hN⟩ : ∃ N, qs.length = N := ⟨_, rfl⟩
    have hN1 : ps.length = N := hlen.trans hN
    rw [hN, hN1]
    rw [hN1] at hsz
    have HN := kept hN
    have HN1 := kept hN1
    clear hN hN1 hlen hsz2
    go_enter Tryd.func21, Tryd.ntmps21
    go_wp2
    go_loopw [5] (fun i wr => ∃ (j q : Nat), j ≤ N ∧ i = .int .i64 (j : Int) ∧ Kept ((bodies ps).take j = (bodies qs).take j) ∧ wr = w.drewN q) (fun i _ => N - (intOf i).toNat)
    case atStart => exact ⟨0, 0, Nat.zero_le _, rfl, ⟨by simp⟩, rfl⟩
    case round =>
      obtain ⟨j, q, hj, rfl, hE, rfl⟩ := hrel
      by_cases hlt : j < N
      · obtain ⟨x, hx⟩ : ∃ x, ps[j]? = some x := ⟨_, List.getElem?_eq_getElem (by rw [HN1.out]; exact hlt)⟩
        obtain ⟨y, hy⟩ : ∃ y, qs[j]? = some y := ⟨_, List.getElem?_eq_getElem (by rw [HN.out]; exact hlt)⟩
        obtain ⟨b, o, rfl, hbb, c0, rx, ax, lx⟩ := r1.at_ hx
        obtain ⟨b', o', rfl, hbb', d0, ry, ay, ly⟩ := r2.at_ hy
        have hbx : (bodies ps)[j]? = some x.l := by unfold bodies; rw [List.getElem?_map, hx]; rfl
        have hby : (bodies qs)[j]? = some y.l := by unfold bodies; rw [List.getElem?_map, hy]; rfl
        have hi0 : (0 : Int) ≤ (j : Int) := by omega
        have hi1 : (j : Int) < (N : Int) := by omega
        have s1 := fun k => run_str (w.drewN k) w.heap.size x.A _ x.c x.l rfl rx
        have s2 := fun k => run_str (w.drewN k) w.heap.size y.A _ y.c y.l rfl ry
        have s3 := str_eq ax ay
        unfold Part.val at c0 d0
        by_cases hxy : x.l = y.l
        · rw [decide_eq_true hxy] at s3
          have HE := kept (take_snoc_eq hbx hby hE.out hxy)
          clear hx hy hbx hby hxy hE rx ry ax ay lx ly
          go_wp2
          go_quiet (fail)
          go_wp2
          go_roundw
          case rel => exact ⟨j + 1, _, by omega, by go_num, HE, rfl⟩
          case measure => simp [intOf]; omega
        · rw [decide_eq_false hxy] at s3
          have HE : Kept (decide (bodies ps = bodies qs) = false) := ⟨decide_eq_false fun e => hxy (by rw [e] at hbx; exact Option.some.inj (hbx.symm.trans hby))⟩
          clear hx hy hbx hby hxy hE rx ry ax ay lx ly
          go_wp2
          go_quiet (fail)
          go_wp2
          go_ret
          exact ⟨ret_bool HE.out.symm, _, World.drewN_drewN _ _ _⟩
      · have HE : Kept (decide (bodies ps = bodies qs) = true) := ⟨decide_eq_true (by
          have := hE.out
          rwa [List.take_of_length_le (by unfold bodies; rw [List.length_map, HN1.out]; omega), List.take_of_length_le (by unfold bodies; rw [List.length_map, HN.out]; omega)] at this)⟩
        clear hE
        go_wp2
        go_ret
        exact ⟨ret_bool HE.out.symm, _, rfl⟩
  · have HE : Kept (decide (bodies ps = bodies qs) = false) := ⟨decide_eq_false fun e => hlen (by have := congrArg List.length e; unfold bodies at this; simpa using this)⟩
    have hb : ((ps.length : Int) != (qs.length : Int)) = true := by simp; omega
    generalize ps.length = N at *
    generalize qs.length = M at *
    clear hlen
    go_enter Tryd.func21, Tryd.ntmps21
    go_wp2
    go_ret
    exact ⟨ret_bool HE.out.symm, 0, rfl⟩
def few (ps : List (List Nat)) (most : Nat) : Bool := decide (ps.length ≤ most) && ps.all fun r => decide (r.length ≤ 500)
theorem few_take {ps : List (List Nat)} {j : Nat} {r : List Nat} (hr : ps[j]? = some r) (h : ∀ x ∈ ps.take j, x.length ≤ 500) (h5 : r.length ≤ 500) : ∀ x ∈ ps.take (j + 1), x.length ≤ 500 := by
  obtain ⟨hk, rfl⟩ := List.getElem?_eq_some_iff.1 hr
  intro y hy
  rw [List.take_succ_eq_append_getElem hk] at hy
  rcases List.mem_append.1 hy with h1 | h1
  · exact h y h1
  · rcases List.mem_singleton.1 h1 with rfl; exact h5
theorem recA : recB [97] = [1, 1, 97, 170, 211, 45, 221] := by decide +kernel
end Go.Proofs.YtdlghabpnpbebaaDoor.Wal
