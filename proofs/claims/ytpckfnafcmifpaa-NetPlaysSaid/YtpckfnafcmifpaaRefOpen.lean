/- The walk of epitaphref05.Open. -/
import Derived.Test.YtpckfnafcmifpaaOpen
import Derived.Test.YtpckfnafcmifpaaSealWalksB
namespace Go.Proofs.Ytpckfnafcmifpaa.Seal
open Go.RowKit Go.Proofs.Ytpckfnafcmifpaa.Mem Go.Proofs.Ytpckfnafcmifpaa.Crc

theorem ropen_short (A : Option Addr) (c : Nat) (l : List Nat) (w : World) (h : l.length < 5) :
    Calls Try.prog 34 #[.slice A l.length c] w fun e w' => e = .returned (.tuple #[.int .u8 0, .slice none 0 0, .int .i64 2]) ∧ w = w' := by
  go_enter Try.func34, Try.ntmps34
  go_wp2
  go_ret3
  exact ⟨rfl, rfl⟩
theorem sealed_iff (l : List Nat) (N : Nat) (hN : 1 ≤ N) (hl : N < l.length) : sealed (l.getD 0 0) ((l.drop 1).take (N - 1)) = l ↔ le4 (more 0 (l.take N)) = l.drop N := by
  have h1 : l.getD 0 0 :: (l.drop 1).take (N - 1) = l.take N := by
    cases l with
    | nil => simp at hl
    | cons a t =>
      obtain ⟨M, rfl⟩ : ∃ M, N = M + 1 := ⟨N - 1, by omega⟩
      simp
  show (l.getD 0 0 :: (l.drop 1).take (N - 1)) ++ le4 (more 0 (l.getD 0 0 :: (l.drop 1).take (N - 1))) = l ↔ _
  rw [h1]
  constructor
  · intro h
    have h2 : l.take N ++ le4 (more 0 (l.take N)) = l.take N ++ l.drop N := by rw [h, List.take_append_drop]
    exact List.append_cancel_left h2
  · intro h
    rw [h, List.take_append_drop]
set_option maxHeartbeats 2000000 in
theorem ropen_walk (b o c : Nat) (l : List Nat) (n N : Nat) (w : World) (hl : AllB l) (hr : Rd w w.heap.size (some ⟨b, o, none⟩) (BB l)) (h : l.length = n) (hn : n = N + 4) (hN : 1 ≤ N) (hle : n ≤ c) (hsz : n ≤ 140737488355232) :
    Calls Try.prog 34 #[.slice (some ⟨b, o, none⟩) n c] w (Opens w l N) := by
  have hnn : (n : Int) - 4 = (N : Int) := by omega
  have hn4 : N + 4 ≤ n := by omega
  have hc1 : ¬ c = 1 := by omega
  have hNc : N ≤ c := by omega
  have hrt := hr.drop 1 c n (by omega) hle (by rw [BB_length, h])
  rw [if_neg hc1, BB_drop] at hrt
  simp only [Option.map_some, Mem.add_plain] at hrt
  have hr9 : Rd w w.heap.size (some ⟨b, o + 1, none⟩) (BB ((l.drop 1).take (N - 1))) := by rw [← BB_take]; exact hrt.take (N - 1)
  have hr10 := hr9.alloc (Nat.le_refl _) (.cells #[] 5)
  have hl9 : N - 1 = ((l.drop 1).take (N - 1)).length := by rw [List.length_take, List.length_drop, h]; omega
  have hm8 : AllB ((l.drop 1).take (N - 1)) := fun z hz => hl z (List.mem_of_mem_drop (List.mem_of_mem_take hz))
  have hx8 : l.getD 0 0 < 256 := by
    cases l with
    | nil => simp
    | cons a t => exact hl a (by simp)
  have hiff := sealed_iff l N hN (by omega)
  have h0 : (BB l)[0]? = some (.int .u8 (l.getD 0 0 : Int)) := by
    cases l with
    | nil => simp at h; omega
    | cons a t => rfl
  have HI := Lib.hid hiff
  generalize hm : (l.drop 1).take (N - 1) = m at *
  generalize hx : l.getD 0 0 = x at *
  have HM := Lib.hid hl9
  have hmz : ([] : List Nat).length + m.length ≤ 140737488355328 := by simp; omega
  have HMZ := Lib.hid hmz
  have hm9 : m.length ≤ 140737488355232 := by omega
  have hn0 : 0 < n := by omega
  have HL := Lib.hid h
  have HN := Lib.hid hn
  have hown1 : Own (w.alloc (.cells #[] 5)) w.heap.size 5 (.slice (some ⟨w.heap.size, 0, none⟩) 0 0) (BB []) := Own.new w w.heap.size 5 (BB []) (Nat.le_refl _) (by simp [BB, maxLen])
  have hbase : w.heap.size ≤ (w.alloc (.cells #[] 5)).heap.size := by simp
  clear hiff hl9 hrt hmz h hn
  go_enter Try.func34, Try.ntmps34
  go_wp2_with (at_builtin; refine wpl_app rfl (.tmp 9) (.tmp 14) rfl w.heap.size _ [] rfl hown1 _ _ _ _ m rfl HM.out hr10 HMZ.out hbase ?_; intro A2 c2 w2 r2 hr2 hown2 hg2 hb2)
  have hb02 : Below w.heap.size w w2 := ((Below.refl _ _).alloc (Nat.le_refl _) _).trans hb2
  obtain rfl : r2 = m := by simpa using hr2.out
  clear hg2 hb2 hr2 hr10 hown1 hbase hr9
  have hrb := (hr.below hb02).more hb02.size
  obtain ⟨b', o', he, hbl, hcell⟩ := hrb (by intro e; have h1 := congrArg List.length e; rw [BB_length, HL.out] at h1; have h2 : n = 0 := h1; omega)
  injection he with he
  injection he with hb' ho' _
  subst hb' ho'
  have hc0 := hcell 0 _ h0
  simp only [Nat.add_zero] at hc0
  have hc10 : w2.drew.cell? ⟨b, o, none⟩ = some (.int .u8 (x : Int)) := hc0
  have hcv : (convert 54 9 (.slice (some ⟨b, o, none⟩) n c)).run Try.prog w2.drew = .ok (.string (strB l)) w2.drew := run_str w2.drew _ _ n c l HL.out.symm hrb.drew
  have hbd : Below w2.heap.size w2 w2.drew := (Below.refl _ _).drew
  have hbb : b < w2.heap.size := hbl
  have hsa := sealed_all (k := x) hx8 hm8
  have SC := Lib.hid (fun (W : World) (h : Below w2.heap.size w2 W) => rseal_any x A2 r2.length c2 r2 W rfl hx8 hm8 ((hown2.rd.below h).more h.size) hm9)
  have KC := Lib.hid (fun (W : World) (h : Below w2.heap.size w2 W) => (h.cell (p := ⟨b, o, none⟩) hbb).trans hc0)
  have KV := Lib.hid (fun (W : World) (h : Below w2.heap.size w2 W) => run_str W _ _ n c l HL.out.symm ((hrb.below h).more h.size))
  generalize sealed x r2 = sl at *
  clear hcell hrb
  go_wp2_with fail
  go_region_with (first
    | (go_at_call 32; refine (SC.out _ hbd).mono ?_; rintro e w3 ⟨A3, c3, rfl, hown3, hc3, hb3⟩; have hb23 := below_next hbd hb3; have hk3 := KC.out _ hb23; have hv3 := KV.out _ hb23; have hr3 := run_str w3 _ _ _ c3 sl rfl hown3.rd))
  all_goals
    clear HN HMZ
    have hb3' : Below w.heap.size w w3 := below_next hb02 hb23
    have how : Own w3 w.heap.size 5 (.slice A2 (N - 1) c2) (BB r2) := by rw [HM.out]; exact hown2.below hb23 (Nat.le_refl _)
    have hvs : Value.slice A2 r2.length c2 = Value.slice A2 (N - 1) c2 := by rw [HM.out]
    rw [hvs]
    have hse := str_eq hsa hl
    rw [hse]
    clear hcv hc10 hc0 hv3 hr3 KC KV SC hse hown3 hvs
    have h5 : (5 : Int) ≤ (n : Int) := by omega
    by_cases heq : sl = l
    · have hfin : ∀ e w', (∃ A c, e = .returned (.tuple #[.int .u8 (x : Int), .slice A (N - 1) c, .int .i64 0]) ∧ Own w' w.heap.size 5 (.slice A (N - 1) c) (BB r2) ∧ Below w.heap.size w w') → Opens w l N e w' := by
        intro e w' h
        unfold Opens
        rw [if_pos (HI.out.1 heq), hm, hx]
        exact h
      have HF := Lib.hid hfin
      rw [decide_eq_true heq]
      clear hfin heq
      go_wp2_with fail
      go_ret3
      exact HF.out _ _ ⟨A2, c2, rfl, how, hb3'⟩
    · have hfin : ∀ e w', e = .returned (.tuple #[.int .u8 0, .slice none 0 0, .int .i64 5]) ∧ Below w.heap.size w w' → Opens w l N e w' := by
        intro e w' h
        unfold Opens
        rw [if_neg (fun h => heq (HI.out.2 h))]
        exact h
      have HF := Lib.hid hfin
      rw [decide_eq_false heq]
      clear hfin heq
      go_wp2
      go_ret3
      exact HF.out _ _ ⟨rfl, hb3'⟩
/-- what bytes are opened to: the kind, the body, the error's number -/
def opened (l : List Nat) : Nat × List Nat × Nat :=
  if l.length < 5 then (0, [], 2)
  else if le4 (more 0 (l.take (l.length - 4))) = l.drop (l.length - 4) then (l.getD 0 0, (l.drop 1).take (l.length - 4 - 1), 0) else (0, [], 5)
def Opened (w : World) (l : List Nat) (e : Ending) (w' : World) : Prop :=
  ∃ A c k m er, e = .returned (.tuple #[.int .u8 ((k : Nat) : Int), .slice A (m : List Nat).length c, .int .i64 ((er : Nat) : Int)]) ∧ Hid (opened l = (k, m, er)) ∧ Own w' w.heap.size 5 (.slice A m.length c) (BB m) ∧ Below w.heap.size w w'
theorem opens_opened {w : World} {l : List Nat} {N : Nat} (h5 : ¬ l.length < 5) (hN : l.length - 4 = N) {e : Ending} {w' : World} (h : Opens w l N e w') : Opened w l e w' := by
  unfold Opens at h
  unfold Opened opened
  rw [if_neg h5, hN]
  by_cases hq : le4 (more 0 (l.take N)) = l.drop N
  · rw [if_pos hq] at h
    rw [if_pos hq]
    obtain ⟨A, c, rfl, how, hb⟩ := h
    have hl : ((l.drop 1).take (N - 1)).length = N - 1 := by rw [List.length_take, List.length_drop]; omega
    exact ⟨A, c, _, _, _, by rw [hl]; rfl, rfl, by rw [hl]; exact how, hb⟩
  · rw [if_neg hq] at h
    rw [if_neg hq]
    obtain ⟨rfl, hb⟩ := h
    exact ⟨none, 0, 0, [], 5, rfl, rfl, Own.nilv _ _ _, hb⟩
theorem opened_short {w : World} {l : List Nat} (h5 : l.length < 5) {e : Ending} {w' : World} (h : e = .returned (.tuple #[.int .u8 0, .slice none 0 0, .int .i64 2]) ∧ w = w') : Opened w l e w' := by
  unfold Opened opened
  rw [if_pos h5]
  obtain ⟨rfl, rfl⟩ := h
  exact ⟨none, 0, 0, [], 2, rfl, rfl, Own.nilv _ _ _, Below.refl _ _⟩
theorem ropen_any (A : Option Addr) (n c : Nat) (l : List Nat) (w : World) (hn : n = l.length) (hl : AllB l) (hr : Rd w w.heap.size A (BB l)) (hc : l.length ≤ c) (hsz : l.length ≤ 140737488355232) :
    Calls Try.prog 34 #[.slice A n c] w (Opened w l) := by
  subst hn
  by_cases h5 : l.length < 5
  · exact (ropen_short A c l w h5).mono fun _ _ h => opened_short h5 h
  · obtain ⟨b, o, rfl, _, _⟩ := hr (by intro e; have h1 := congrArg List.length e; rw [BB_length] at h1; have h2 : l.length = 0 := h1; omega)
    exact (ropen_walk b o c l l.length (l.length - 4) w hl hr rfl (by omega) (by omega) hc hsz).mono fun _ _ h => opens_opened h5 rfl h
end Go.Proofs.Ytpckfnafcmifpaa.Seal
