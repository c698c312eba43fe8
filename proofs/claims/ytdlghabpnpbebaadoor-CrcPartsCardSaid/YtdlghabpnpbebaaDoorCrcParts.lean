/- The law CrcParts. -/
import Derived.Test.YtdlghabpnpbebaaDoorCrcLaws
import Derived.Deep.RegionHeld3
import Derived.Deep.DeepCutAuto
namespace Go.Proofs.YtdlghabpnpbebaaDoor.Crc
open Go.RowKit Go.Proofs.YtdlghabpnpbebaaDoor.Mem

theorem heap_at {w : World} {g : Nat} (o : Obj) (h : g = w.heap.size) : (w.alloc o).heap[g]? = some o := by subst h; exact heap_alloc_new w o
theorem heap_old {w : World} {g : Nat} {o : Obj} (o2 : Obj) (h : g < w.heap.size) (h2 : w.heap[g]? = some o) : (w.alloc o2).heap[g]? = some o := (Below.heap_alloc w o2 g h).trans h2
theorem of1_at (W : World) (g n c : Nat) (A : Option Addr) (l : List Nat) (hn : n = l.length) (hg : W.heap[g]? = some (.cells #[.slice A n c] 22 (0, 0))) (hT : Tab W) (h : Ok W A l) :
    Calls Tryd.prog 8 #[.slice (some ⟨g, 0, none⟩) 1 1] W fun e w' => e = .returned (.int .u32 (more 0 l : Int)) ∧ W = w' := by
  subst hn
  have hlt : g < W.heap.size := (Array.getElem?_eq_some_iff.1 hg).1
  have hr : RdParts W W.heap.size (some ⟨g, 0, none⟩) [⟨A, l, c⟩] := by
    refine ⟨fun _ => ⟨g, 0, rfl, hlt, fun j u hu => ?_⟩, fun p hp => ?_⟩
    · rw [cell_of_row W g (0 + j) _ _ _ hg, Nat.zero_add]
      simpa [Part.val] using hu
    · rcases List.mem_singleton.1 hp with rfl
      exact ⟨h.1, h.2.1, by have := h.2.2; show l.length ≤ _; omega⟩
  have := of_any _ 1 1 [⟨A, l, c⟩] _ rfl hT hr (by simp)
  simpa [cat] using this
theorem of3_at (W : World) (g n1 n2 n3 c1 c2 c3 : Nat) (A B C : Option Addr) (l m k : List Nat) (hn1 : n1 = l.length) (hn2 : n2 = m.length) (hn3 : n3 = k.length) (hg : W.heap[g]? = some (.cells #[.slice A n1 c1, .slice B n2 c2, .slice C n3 c3] 22 (0, 0))) (hT : Tab W) (h : Ok W A l) (h2 : Ok W B m) (h3 : Ok W C k) :
    Calls Tryd.prog 8 #[.slice (some ⟨g, 0, none⟩) 3 3] W fun e w' => e = .returned (.int .u32 (more 0 (l ++ m ++ k) : Int)) ∧ W = w' := by
  subst hn1 hn2 hn3
  have hlt : g < W.heap.size := (Array.getElem?_eq_some_iff.1 hg).1
  have hr : RdParts W W.heap.size (some ⟨g, 0, none⟩) [⟨A, l, c1⟩, ⟨B, m, c2⟩, ⟨C, k, c3⟩] := by
    refine ⟨fun _ => ⟨g, 0, rfl, hlt, fun j u hu => ?_⟩, fun p hp => ?_⟩
    · rw [cell_of_row W g (0 + j) _ _ _ hg, Nat.zero_add]
      simpa [Part.val] using hu
    · rcases List.mem_cons.1 hp with rfl | hp
      · exact ⟨h.1, h.2.1, by have := h.2.2; show l.length ≤ _; omega⟩
      rcases List.mem_cons.1 hp with rfl | hp
      · exact ⟨h2.1, h2.2.1, by have := h2.2.2; show m.length ≤ _; omega⟩
      rcases List.mem_singleton.1 hp with rfl
      exact ⟨h3.1, h3.2.1, by have := h3.2.2; show k.length ≤ _; omega⟩
  have := of_any _ 3 3 [⟨A, l, c1⟩, ⟨B, m, c2⟩, ⟨C, k, c3⟩] _ rfl hT hr (by simp)
  simpa [cat] using this
set_option maxHeartbeats 4000000 in
theorem parts_law (A : Option Addr) (ca : Nat) (l : List Nat) (cut : Nat) (w : World) (hT : Tab w) (hA : Ok w A l) (hc : l.length ≤ ca) (hcm : ca ≤ 9223372036854775807) (hcut : cut < 65536) :
    Calls Tryd.prog 3 #[.slice A l.length ca, .int .u16 (cut : Int)] w fun e w' => e = .returned (.bool true) ∧ Below w.heap.size w w' := by
  have hsz := hA.2.2
  have hk2 : (cut : Int) % (l.length : Int) = ((cut % l.length : Nat) : Int) := by simp
  have hk3 : l.length ≠ 0 → cut % l.length < l.length := fun h => Nat.mod_lt _ (by omega)
  generalize cut % l.length = k at hk2 hk3
  have HK2 := Lib.hid hk2
  have HK3 := Lib.hid hk3
  clear hk2 hk3
  go_enter Tryd.func3, Tryd.ntmps3
  go_upto_if 8 with fail
  go_cut [5] (fun p wr => ∃ k : Nat, p = .int .i64 (k : Int) ∧ k ≤ l.length ∧ wr = w)
  case first =>
    go_wp2
    · go_meet
      have hlt : 0 < l.length := by assumption
      exact ⟨k, by rw [← HK2.out], Nat.le_of_lt (HK3.out (by omega)), rfl⟩
    · go_meet
      exact ⟨0, rfl, Nat.zero_le _, rfl⟩
  case rest =>
    obtain ⟨j, rfl, hj, rfl⟩ := hcut
    clear HK2 HK3
    have hjc : (j : Int) ≤ (ca : Int) := by omega
    have hjl : (j : Int) ≤ (l.length : Int) := by omega
    have hj0 : (0 : Int) ≤ (j : Int) := by omega
    have hlc : (l.length : Int) ≤ (ca : Int) := by omega
    have e3 : l.take j ++ [] ++ l.drop j = l := by simp
    obtain ⟨A2, hif⟩ : ∃ A2, (if ca = j then A else A.map (fun x => x.add j)) = A2 := ⟨_, rfl⟩
    have hOk : ∀ W, Below wc.heap.size wc W → Tab W ∧ Ok W A l ∧ Ok W A (l.take j) ∧ Ok W (if ca = j then A else A.map (fun x => x.add j)) (l.drop j) := fun W hb => by
      have h0 := hA.next hb
      refine ⟨hT.next hb, h0, ⟨by rw [← BB_take]; exact h0.1.take j, fun x hx => h0.2.1 x (List.mem_of_mem_take hx), by have := List.length_take_le j l; omega⟩, ⟨?_, fun x hx => h0.2.1 x (List.mem_of_mem_drop hx), by simp; omega⟩⟩
      rw [← BB_drop]
      exact h0.1.drop j ca l.length hj hc (BB_length l)
    have hn1 : j = (l.take j).length := by simp; omega
    have hn3 : l.length - j = (l.drop j).length := by simp
    have hmm : more (more 0 (l.take j)) (l.drop j) = more 0 l := by rw [more_append, List.take_append_drop]
    have hlt : more 0 (l.take j) < 4294967296 := more_lt (fun x hx => hA.2.1 x (List.mem_of_mem_take hx)) (by decide)
    rw [hif] at hOk
    have C3 := kept (fun (W : World) (g : Nat) (hb : Below wc.heap.size wc W) (hg : W.heap[g]? = some (.cells #[.slice A j ca, .slice none 0 0, .slice A2 (l.length - j) (ca - j)] 22 (0, 0))) => of3_at W g j 0 _ ca 0 _ A none _ (l.take j) [] (l.drop j) hn1 rfl hn3 hg (hOk W hb).1 (hOk W hb).2.2.1 (Ok.nil W) (hOk W hb).2.2.2)
    have C1 := kept (fun (W : World) (g : Nat) (hb : Below wc.heap.size wc W) (hg : W.heap[g]? = some (.cells #[.slice A l.length ca] 22 (0, 0))) => of1_at W g l.length ca A l rfl hg (hOk W hb).1 (hOk W hb).2.1)
    have C2 := kept (fun (W : World) (g : Nat) (hb : Below wc.heap.size wc W) (hg : W.heap[g]? = some (.cells #[.slice A j ca] 22 (0, 0))) => of1_at W g j ca A (l.take j) hn1 hg (hOk W hb).1 (hOk W hb).2.2.1)
    have C4 := kept (fun (W : World) (hb : Below wc.heap.size wc W) => more_any (more 0 (l.take j)) A2 (l.length - j) (ca - j) (l.drop j) W hn3 hlt (hOk W hb).2.2.2.2.1 (hOk W hb).1 (hOk W hb).2.2.2.1 (by simp; omega))
    have C5 := kept (fun (W : World) (hb : Below wc.heap.size wc W) => works_any W (hOk W hb).1)
    rw [e3] at C3
    rw [hmm] at C4
    clear hmm hlt hn1 hn3 hOk e3 hT hA
    generalize more 0 (l.take j) = S1 at *
    generalize more 0 l = S0 at *
    go_wp2_with fail
    go_region_held3 (fun W => True) (trivial) (first
      | (go_at_call 8; ((with_reducible refine (C3.out _ _ ?_ ?_).mono ?_); (focus ((repeat (first | with_reducible exact Below.refl _ _ | with_reducible refine Below.drew ?_ | with_reducible refine below_new ?_ _)); done)); (focus ((show (World.heap (World.alloc _ _))[_]? = _); (repeat (first | ((with_reducible refine heap_at _ ?_); (simp; done)) | ((with_reducible refine heap_old _ ?_ ?_); (focus (simp; done))))); done)); rintro e w' ⟨rfl, rfl⟩))
      | (go_at_call 8; ((with_reducible refine (C1.out _ _ ?_ ?_).mono ?_); (focus ((repeat (first | with_reducible exact Below.refl _ _ | with_reducible refine Below.drew ?_ | with_reducible refine below_new ?_ _)); done)); (focus ((show (World.heap (World.alloc _ _))[_]? = _); (repeat (first | ((with_reducible refine heap_at _ ?_); (simp; done)) | ((with_reducible refine heap_old _ ?_ ?_); (focus (simp; done))))); done)); rintro e w' ⟨rfl, rfl⟩))
      | (go_at_call 8; ((with_reducible refine (C2.out _ _ ?_ ?_).mono ?_); (focus ((repeat (first | with_reducible exact Below.refl _ _ | with_reducible refine Below.drew ?_ | with_reducible refine below_new ?_ _)); done)); (focus ((show (World.heap (World.alloc _ _))[_]? = _); (repeat (first | ((with_reducible refine heap_at _ ?_); (simp; done)) | ((with_reducible refine heap_old _ ?_ ?_); (focus (simp; done))))); done)); rintro e w' ⟨rfl, rfl⟩))
      | (go_at_call 9; ((with_reducible refine (C4.out _ ?_).mono ?_); (focus ((repeat (first | with_reducible exact Below.refl _ _ | with_reducible refine Below.drew ?_ | with_reducible refine below_new ?_ _)); done)); rintro e w' ⟨rfl, rfl⟩))
      | (go_at_call 10; ((with_reducible refine (C5.out _ ?_).mono ?_); (focus ((repeat (first | with_reducible exact Below.refl _ _ | with_reducible refine Below.drew ?_ | with_reducible refine below_new ?_ _)); done)); rintro e w' ⟨rfl, hb9⟩)))
    all_goals (go_wp2_with fail; go_ret)
    all_goals exact ⟨rfl, below_next (by (repeat (first | with_reducible exact Below.refl _ _ | with_reducible refine Below.drew ?_ | with_reducible refine below_new ?_ _))) hb9⟩
end Go.Proofs.YtdlghabpnpbebaaDoor.Crc
