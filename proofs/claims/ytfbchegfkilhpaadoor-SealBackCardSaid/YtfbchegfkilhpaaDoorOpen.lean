/- The walk of layer 5's Open. -/
import Derived.Test.YtfbchegfkilhpaaDoorSealWalksC
import Derived.Deep.QuietTactic
import Derived.BigQuiet
import Derived.Deep.RegionWith
import Derived.Deep.RegionHeld3
import Derived.Deep.DeepCutAuto
namespace Go.Proofs.YtfbchegfkilhpaaDoor.Seal
open Go.RowKit Go.Proofs.YtfbchegfkilhpaaDoor.Mem Go.Proofs.YtfbchegfkilhpaaDoor.Crc

theorem open_short (A : Option Addr) (c : Nat) (l : List Nat) (w : World) (h : l.length < 5) :
    Calls Tryd.prog 23 #[.slice A l.length c] w fun e w' => e = .returned (.tuple #[.int .u8 0, .slice none 0 0, .int .i64 2]) ∧ w = w' := by
  go_enter Tryd.func23, Tryd.ntmps23
  go_wp2
  go_ret3
  exact ⟨rfl, rfl⟩
theorem tab_drew {w : World} (h : Tab w) : Tab w.drew := h
theorem parts_drew {w : World} {B : Nat} {X : Option Addr} {ps : List Part} (h : RdParts w B X ps) : RdParts w.drew B X ps := h
theorem parts_alloc {w : World} {B : Nat} {X : Option Addr} {ps : List Part} (h : RdParts w B X ps) (hB : B ≤ w.heap.size) (o : Obj) : RdParts (w.alloc o) B X ps :=
  ⟨h.1.alloc hB o, fun p hp => ⟨(h.2 p hp).1.alloc hB o, (h.2 p hp).2⟩⟩
theorem sum_at (W : World) (X : Option Addr) (p1 p2 : Part) (B : Nat) (hB : B ≤ W.heap.size) (hT : Tab W) (h : RdParts W B X [p1, p2]) :
    Calls Tryd.prog 26 #[.slice X 2 2] W fun e w' => e = .returned (arr4 (more 0 (p1.l ++ p2.l))) ∧ Below W.heap.size W w' := by
  have := sum_any X 2 2 [p1, p2] W rfl hT (h.more hB) (by simp)
  have e : cat [p1, p2] = p1.l ++ p2.l := by simp [cat]
  rw [e] at this
  exact this
def zero4 : Obj := .cells #[.int .u8 0, .int .u8 0, .int .u8 0, .int .u8 0] 50
/-- an array of the call's own holds the four bytes -/
def Arr (wr : World) (g s : Nat) : Prop := Rd wr wr.heap.size (some ⟨g, 0, none⟩) (BB (le4 s))
theorem with_below {W w0 : World} {f : FuncId} {args : Array Value} {v : Value} (h : Calls Tryd.prog f args W fun e w' => e = .returned v ∧ Below W.heap.size W w') (hb : Below w0.heap.size w0 W) :
    Calls Tryd.prog f args W fun e w' => e = .returned v ∧ Below W.heap.size W w' ∧ Below w0.heap.size w0 w' := h.mono fun _ _ h => ⟨h.1, h.2, hb.trans (h.2.mono hb.size)⟩
theorem arr_new (w1 : World) {s : Nat} (hs : s < 4294967296) : Arr (w1.alloc (.cells #[.int .u8 ((s : Int) % 256), .int .u8 ((s : Int) / 256 % 256), .int .u8 ((s : Int) / 65536 % 256), .int .u8 ((s : Int) / 16777216)] 50)) w1.heap.size s := by
  unfold Arr
  rw [← arr4_cells hs]
  exact (Rd.new w1 _ _).more (by simp)
theorem arr_set (w1 : World) {g s : Nat} (hs : s < 4294967296) (h : w1.heap[g]? = some zero4) :
    Arr ((((w1.setCell ⟨g, 0, none⟩ (.int .u8 ((s : Int) % 256))).setCell ⟨g, 1, none⟩ (.int .u8 ((s : Int) / 256 % 256))).setCell ⟨g, 2, none⟩ (.int .u8 ((s : Int) / 65536 % 256))).setCell ⟨g, 3, none⟩ (.int .u8 ((s : Int) / 16777216))) g s := by
  have h0 : w1.heap[g]? = some (.cells #[.int .u8 0, .int .u8 0, .int .u8 0, .int .u8 0] 50) := h
  have hf := heap_setCell_same _ g 3 _ _ (.int .u8 ((s : Int) / 16777216)) (heap_setCell_same _ g 2 _ _ (.int .u8 ((s : Int) / 65536 % 256)) (heap_setCell_same _ g 1 _ _ (.int .u8 ((s : Int) / 256 % 256)) (heap_setCell_same w1 g 0 _ _ (.int .u8 ((s : Int) % 256)) h0)))
  generalize (((w1.setCell ⟨g, 0, none⟩ (.int .u8 ((s : Int) % 256))).setCell ⟨g, 1, none⟩ (.int .u8 ((s : Int) / 256 % 256))).setCell ⟨g, 2, none⟩ (.int .u8 ((s : Int) / 65536 % 256))).setCell ⟨g, 3, none⟩ (.int .u8 ((s : Int) / 16777216)) = W at *
  unfold Arr
  rw [← arr4_cells hs]
  intro _
  refine ⟨g, 0, rfl, (Array.getElem?_eq_some_iff.1 hf).1, fun j u hu => ?_⟩
  rw [cell_of_row W g (0 + j) _ _ (0, 0) hf, ← hu, Nat.zero_add]
  simp
theorem below_set4 {w w1 : World} {g : Nat} (h : Below w.heap.size w w1) (hg : w.heap.size ≤ g) (a0 a1 a2 a3 : Value) :
    Below w.heap.size w ((((w1.setCell ⟨g, 0, none⟩ a0).setCell ⟨g, 1, none⟩ a1).setCell ⟨g, 2, none⟩ a2).setCell ⟨g, 3, none⟩ a3) :=
  (((h.setCell (p := ⟨g, 0, none⟩) hg a0).setCell (p := ⟨g, 1, none⟩) hg a1).setCell (p := ⟨g, 2, none⟩) hg a2).setCell (p := ⟨g, 3, none⟩) hg a3
theorem cells4 {W w1 : World} {g : Nat} (hb : Below W.heap.size W w1) (hg : W.heap[g]? = some zero4) :
    (w1.cell? ⟨g, 0, none⟩ = some (.int .u8 0) ∧ w1.cell? ⟨g, 1, none⟩ = some (.int .u8 0) ∧ w1.cell? ⟨g, 2, none⟩ = some (.int .u8 0) ∧ w1.cell? ⟨g, 3, none⟩ = some (.int .u8 0)) ∧
    (w1.frozen? ⟨g, 0, none⟩ = false ∧ w1.frozen? ⟨g, 1, none⟩ = false ∧ w1.frozen? ⟨g, 2, none⟩ = false ∧ w1.frozen? ⟨g, 3, none⟩ = false) ∧ w1.heap[g]? = some zero4 := by
  have hlt : g < W.heap.size := (Array.getElem?_eq_some_iff.1 hg).1
  have h1 : w1.heap[g]? = some zero4 := (hb.block g hlt).trans hg
  have hc := fun j => cell_of_row w1 g j _ _ (0, 0) (show w1.heap[g]? = some (.cells #[.int .u8 0, .int .u8 0, .int .u8 0, .int .u8 0] 50) from h1)
  have hf : ∀ j, w1.frozen? ⟨g, j, none⟩ = false := fun j => by
    have h2 : w1.heap[g]? = some (.cells #[.int .u8 0, .int .u8 0, .int .u8 0, .int .u8 0] 50 (0, 0)) := h1
    simp [World.frozen?, h2]
  exact ⟨⟨hc 0, hc 1, hc 2, hc 3⟩, ⟨hf 0, hf 1, hf 2, hf 3⟩, h1⟩
/-- what Open gives of bytes that are long enough -/
def Opens (w : World) (l : List Nat) (N : Nat) (e : Ending) (w' : World) : Prop :=
  if le4 (more 0 (l.take N)) = l.drop N then ∃ A c, e = .returned (.tuple #[.int .u8 (l.getD 0 0 : Int), .slice A (N - 1) c, .int .i64 0]) ∧ Own w' w.heap.size 5 (.slice A (N - 1) c) (BB ((l.drop 1).take (N - 1))) ∧ Below w.heap.size w w'
  else e = .returned (.tuple #[.int .u8 0, .slice none 0 0, .int .i64 5]) ∧ Below w.heap.size w w'
set_option maxHeartbeats 2000000 in
theorem open_walk (b o c : Nat) (l : List Nat) (n N : Nat) (w : World) (hT : Tab w) (hl : AllB l) (hr : Rd w w.heap.size (some ⟨b, o, none⟩) (BB l)) (h : l.length = n) (hn : n = N + 4) (hN : 1 ≤ N) (hle : n ≤ c) (hsz : n ≤ 140737488355328) :
    Calls Tryd.prog 23 #[.slice (some ⟨b, o, none⟩) n c] w (Opens w l N) := by
  have hnn : (n : Int) - 4 = (N : Int) := by omega
  have hnN : n - N = 4 := by omega
  have hn4 : N + 4 ≤ n := by omega
  have hc1 : ¬ c = 1 := by omega
  have hNc : N ≤ c := by omega
  have hok1 : Ok w (some ⟨b, o, none⟩) (l.take 1) := ⟨by rw [← BB_take]; exact hr.take 1, all_take hl 1, by rw [List.length_take]; omega⟩
  have hrd := hr.drop 1 c n (by omega) hle (by rw [BB_length, h])
  rw [if_neg hc1, BB_drop] at hrd
  have hok2 : Ok w (some ⟨b, o + 1, none⟩) ((l.drop 1).take (N - 1)) := ⟨by rw [← BB_take]; exact hrd.take (N - 1), fun z hz => hl z (List.mem_of_mem_drop (List.mem_of_mem_take hz)), by rw [List.length_take]; omega⟩
  have ecat : l.take 1 ++ (l.drop 1).take (N - 1) = l.take N := by
    rw [← List.take_add, show 1 + (N - 1) = N from by omega]
  have hml : more 0 (l.take N) < 4294967296 := more_lt (all_take hl N) (by decide)
  have e1 : (l.take 1).length = 1 := by rw [List.length_take]; omega
  have e2 : ((l.drop 1).take (N - 1)).length = N - 1 := by rw [List.length_take, List.length_drop]; omega
  have hps : ∀ W : World, Below w.heap.size w W → ∀ p ∈ [(⟨some ⟨b, o, none⟩, l.take 1, c⟩ : Part), ⟨some ⟨b, o + 1, none⟩, (l.drop 1).take (N - 1), c - 1⟩], Rd W W.heap.size p.A (BB p.l) ∧ AllB p.l ∧ p.l.length ≤ 140737488355328 := by
    intro W hW p hp
    rcases List.mem_cons.1 hp with rfl | hp
    · exact (hok1.next hW)
    · rcases List.mem_singleton.1 hp with rfl
      exact (hok2.next hW)
  have p1 := parts_new w _ (hps w (Below.refl _ _))
  have p2 := parts_alloc p1 (by simp) zero4
  have p3 := parts_new (w.alloc zero4) _ (hps _ ((Below.refl _ _).alloc (Nat.le_refl _) _))
  simp only [List.map_cons, List.map_nil, Part.val, e1, e2, zero4] at p1 p2 p3
  have s1 := sum_at _ _ _ _ _ (by show w.heap.size + 1 ≤ (w.alloc _).heap.size; simp) (tab_drew (hT.alloc _)) (parts_drew p1)
  have s2 := sum_at _ _ _ _ _ (by show w.heap.size + 1 ≤ ((w.alloc _).alloc _).heap.size; simp) (tab_drew ((hT.alloc _).alloc _)) (parts_drew p2)
  have s3 := sum_at _ _ _ _ _ (by show (w.alloc _).heap.size + 1 ≤ ((w.alloc _).alloc _).heap.size; simp) (tab_drew ((hT.alloc _).alloc _)) (parts_drew p3)
  have hsz1 : ∀ o : Obj, (w.alloc o).heap.size = w.heap.size + 1 := fun o => by simp
  rw [hsz1] at s3
  simp only [ecat] at s1 s2 s3
  have g2 : ((w.alloc (.cells #[.slice (some ⟨b, o, none⟩) 1 c, .slice (some ⟨b, o + 1, none⟩) (N - 1) (c - 1)] 24)).alloc zero4).drew.heap[w.heap.size + 1]? = some zero4 := by
    rw [← hsz1 (.cells #[.slice (some ⟨b, o, none⟩) 1 c, .slice (some ⟨b, o + 1, none⟩) (N - 1) (c - 1)] 24)]
    exact heap_alloc_new _ _
  have g3 : ((w.alloc zero4).alloc (.cells #[.slice (some ⟨b, o, none⟩) 1 c, .slice (some ⟨b, o + 1, none⟩) (N - 1) (c - 1)] 24)).drew.heap[w.heap.size]? = some zero4 :=
    (heap_alloc_old (w.alloc zero4) _ (by simp)).trans (heap_alloc_new w zero4)
  have G2 := Lib.hid g2
  have G3 := Lib.hid g3
  clear g2 g3
  obtain ⟨s, hs⟩ : ∃ s, more 0 (l.take N) = s := ⟨_, rfl⟩
  rw [hs] at hml s1 s2 s3
  have HS := Lib.hid hs
  have HN := Lib.hid hn
  have HL := Lib.hid h
  have S1 := Lib.hid (with_below s1 (((Below.refl w.heap.size w).alloc (Nat.le_refl _) _).drew))
  have S2 := Lib.hid (with_below s2 ((((Below.refl w.heap.size w).alloc (Nat.le_refl _) _).alloc (by simp) _).drew))
  have S3 := Lib.hid (with_below s3 ((((Below.refl w.heap.size w).alloc (Nat.le_refl _) _).alloc (by simp) _).drew))
  clear hn hok1 hok2 hrd ecat hs h s1 s2 s3 p1 p2 p3 hps e1 e2 hsz1
  go_enter Tryd.func23, Tryd.ntmps23
  go_upto_region 4 with fail
  go_cut [6] (fun p wr => ∃ g : Nat, p = .pointer (some ⟨g, 0, none⟩) ∧ Arr wr g s ∧ Below w.heap.size w wr)
  case first =>
    go_region_with (first
      | (go_at_call 26; ((with_reducible refine S1.out.mono ?_); rintro e w1 ⟨rfl, hb1, hbw⟩; unfold arr4))
      | (go_at_call 26; ((with_reducible refine S2.out.mono ?_); rintro e w1 ⟨rfl, hb1, hbw⟩; obtain ⟨⟨z0, z1, z2, z3⟩, ⟨f0, f1, f2, f3⟩, zz⟩ := cells4 hb1 G2.out; have ZZ := Lib.hid zz; clear zz; unfold arr4))
      | (go_at_call 26; ((with_reducible refine S3.out.mono ?_); rintro e w1 ⟨rfl, hb1, hbw⟩; obtain ⟨⟨z0, z1, z2, z3⟩, ⟨f0, f1, f2, f3⟩, zz⟩ := cells4 hb1 G3.out; have ZZ := Lib.hid zz; clear zz; unfold arr4)))
    all_goals (go_wp2_with fail; go_meet)
    all_goals first
      | exact ⟨_, rfl, arr_new _ hml, below_new hbw _⟩
      | exact ⟨_, rfl, arr_set _ hml ZZ.out, below_set4 hbw (by omega) _ _ _ _⟩
  case rest =>
    obtain ⟨g, rfl, harr, hb⟩ := hcut
    have hra : ∀ n, Rd (wc.drewN n) wc.heap.size (some ⟨g, 0, none⟩) (BB (le4 s)) := fun n => harr.drewN n
    have hrw := (hr.below hb).more hb.size
    have hrn := hrw.drop N c n (by omega) hle (by rw [BB_length, HL.out])
    rw [if_neg (by omega), BB_drop] at hrn
    simp only [Option.map_some, Mem.add_plain] at hrn
    have hs1 := fun n => run_str (wc.drewN n) _ _ 4 4 (le4 s) rfl (hra n)
    have hs2 := fun n => run_str (wc.drewN n) _ _ 4 (c - N) (l.drop N) (by rw [List.length_drop, HL.out]; omega) (hrn.drewN n)
    have hse := str_eq (b := l.drop N) (le4_all s) (fun z hz => hl z (List.mem_of_mem_drop hz))
    have HSE := Lib.hid hse
    have hcN : ¬ c = N := by omega
    have hNn : N ≤ n := by omega
    clear hra hse hrn
    go_wp2_with fail
    go_quiet (fail)
    obtain ⟨wd, hwd⟩ : ∃ wd, wc.drewN nq = wd := ⟨_, rfl⟩
    have hbd : Below w.heap.size w wd := by rw [← hwd]; exact below_drewN hb nq
    rw [hwd]
    clear hwd hs1 hs2 hrw harr
    by_cases heq : le4 s = l.drop N
    · have hdt : decide (le4 s = l.drop N) = true := decide_eq_true heq
      rw [HSE.out, hdt]
      have hrd := (hr.below hbd).more hbd.size
      have h0 : l[0]? = some (l.getD 0 0) := by
        have := HL.out
        simp [List.getD, show 0 < l.length from by omega]
      obtain ⟨b', o', he, _, hcell⟩ := hrd (by intro e; have h1 := congrArg List.length e; rw [BB_length, HL.out] at h1; have h2 : n = 0 := h1; omega)
      injection he with he
      injection he with hb' ho' _
      subst hb' ho'
      have hc0 := hcell 0 _ (BB_get l 0 (by have := HL.out; omega))
      simp only [Nat.add_zero] at hc0
      have hrt := hrd.drop 1 c n (by omega) hle (by rw [BB_length, HL.out])
      rw [if_neg hc1, BB_drop] at hrt
      simp only [Option.map_some, Mem.add_plain] at hrt
      have hr9 : Rd wd wd.heap.size (some ⟨b, o + 1, none⟩) (BB ((l.drop 1).take (N - 1))) := by rw [← BB_take]; exact hrt.take (N - 1)
      have hl9 : N - 1 = ((l.drop 1).take (N - 1)).length := by rw [List.length_take, List.length_drop, HL.out]; omega
      have hfin : ∀ e w', (∃ A c, e = .returned (.tuple #[.int .u8 (l.getD 0 0 : Int), .slice A (N - 1) c, .int .i64 0]) ∧ Own w' w.heap.size 5 (.slice A (N - 1) c) (BB ((l.drop 1).take (N - 1))) ∧ Below w.heap.size w w') → Opens w l N e w' := by
        intro e w' h
        unfold Opens
        rw [if_pos (by rw [HS.out]; exact heq)]
        exact h
      have HF := Lib.hid hfin
      generalize (l.drop 1).take (N - 1) = m at *
      generalize l.getD 0 0 = x at *
      have HM := Lib.hid hl9
      have hm9 : m.length ≤ 140737488355328 := by omega
      have hmz : ([] : List Nat).length + m.length ≤ 140737488355328 := by simpa using hm9
      have HMZ := Lib.hid hmz
      have hn0 : 0 < n := by omega
      have hn0' : (0 : Int) < (n : Int) := by omega
      have hN1 : (1 : Int) ≤ (N : Int) := by omega
      have hNn' : (N : Int) ≤ (n : Int) := by omega
      have hNc' : (N : Int) ≤ (c : Int) := by omega
      have hbb : b < wd.drew.heap.size := by have := hbd.size; show b < wd.heap.size; omega
      have hr10 : Rd wd.drew wd.drew.heap.size (some ⟨b, o + 1, none⟩) (BB m) := hr9
      have hc10 : wd.drew.cell? ⟨b, o, none⟩ = some (.int .u8 (x : Int)) := hc0
      clear hfin heq hcell hrt h0 hl9 HSE hdt hmz
      go_wp2_with fail
      go_region_held3 (fun W => W.cell? ⟨b, o, none⟩ = some (.int .u8 (x : Int))) (assumption) (first
        | (refine step_app rfl (.const (.slice none 0 0)) (.tmp 31) rfl wd.drew.heap.size _ [] rfl (Own.nilv _ _ _) _ _ _ _ m rfl HM.out hr10 HMZ.out (Nat.le_refl _) ?_; intro A2 c2 w2 r2 hr2 hown2 hg2 hb2; have hcx := (hb2.cell (p := ⟨b, o, none⟩) hbb).trans hc10))
      clear hg2 hcx
      obtain rfl : r2 = m := by simpa using hr2.out
      have hb3 : Below w.heap.size w w2 := below_next (hbd.drew) hb2
      have how : Own w2 w.heap.size 5 (.slice A2 (N - 1) c2) (BB r2) := by rw [HM.out]; exact hown2.mono hbd.size
      rw [show (Value.slice A2 r2.length c2) = Value.slice A2 (N - 1) c2 from by rw [HM.out]]
      go_wp2
      go_ret3
      exact HF.out _ _ ⟨A2, c2, rfl, how, hb3⟩
    · have hdf : decide (le4 s = l.drop N) = false := decide_eq_false heq
      have hfin : ∀ e w', e = .returned (.tuple #[.int .u8 0, .slice none 0 0, .int .i64 5]) ∧ Below w.heap.size w w' → Opens w l N e w' := by
        intro e w' h
        unfold Opens
        rw [if_neg (by rw [HS.out]; exact heq)]
        exact h
      have HF := Lib.hid hfin
      rw [HSE.out, hdf]
      clear hfin heq
      go_wp2
      go_ret3
      exact HF.out _ _ ⟨rfl, hbd⟩
end Go.Proofs.YtfbchegfkilhpaaDoor.Seal
