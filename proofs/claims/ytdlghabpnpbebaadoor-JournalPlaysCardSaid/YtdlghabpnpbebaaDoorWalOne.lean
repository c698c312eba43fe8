/- Layer 23 (wal): the walks of the document's Put, of bytes.HasPrefix, wal.one. -/
import Derived.Test.YtdlghabpnpbebaaDoorWalPut
import Derived.Test.YtdlghabpnpbebaaDoorNumWalksC
namespace Go.Proofs.YtdlghabpnpbebaaDoor.Wal
open Go.RowKit Go.Proofs.YtdlghabpnpbebaaDoor.Mem Go.Proofs.YtdlghabpnpbebaaDoor.Num Go.Proofs.YtdlghabpnpbebaaDoor.Crc Go.Proofs.YtdlghabpnpbebaaDoor.Shift

theorem rput_any (A : Option Addr) (n c : Nat) (l : List Nat) (w : World) (hn : n = l.length) (hl : AllB l) (hr : Rd w w.heap.size A (BB l)) (hsz : l.length ≤ 140737488355000) :
    Calls Tryd.prog 48 #[.slice A n c] w (Gives w (recB l)) := by
  subst hn
  have C1 := kept (rappend_any none 0 0 [] l.length w rfl (by omega) Rd.nil (by simp))
  rw [List.nil_append] at C1
  have h9 : (numB l.length).length ≤ 9 := by have := lenB_le l.length; have := numB_length l.length; omega
  have HR := kept (fun (W : World) (h : Below w.heap.size w W) => (hr.next h))
  have hal := headB_all hl
  have hlt := more_lt hal (c := 0) (by decide)
  have hhl : (headB l).length ≤ 10 + l.length := by have := headB_length l; have := lenB_le l.length; omega
  have h8 := lenB_le l.length
  clear hr
  go_enter Tryd.func48, Tryd.ntmps48
  go_wp2_with fail
  refine C1.out.mono ?_
  rintro e w1 ⟨A1, c1, rfl, hown1, hc1, hb1⟩
  have hr1 := HR.out w1 hb1
  have hz : (numB l.length).length + l.length ≤ 140737488355328 := by omega
  go_wp2_with (at_builtin; refine wpl_app rfl (.tmp 9) (.tmp 10) rfl w.heap.size _ (numB l.length) rfl hown1 _ A _ c l rfl rfl hr1 hz hb1.size ?_; intro A2 c2 w2 r2 hr2 hown2 hg2 hb2)
  obtain ⟨HD, hHD⟩ : ∃ r, r = headB l := ⟨_, rfl⟩
  have hr2' : r2 = HD := by rw [hr2.out, hHD]; rfl
  subst hr2'
  clear hr2
  rw [← hHD] at hal hlt hhl
  have hb02 := hb1.trans hb2
  have hrd2 := hown2.rd
  have HD := kept hHD
  clear hb2 hg2 hHD hown1 hr1 hb1
  refine (rmore_any 0 A2 _ c2 r2 _ rfl (by decide) hal hrd2 (by omega)).mono ?_
  rintro e w' ⟨rfl, rfl⟩
  have HS := kept (show recB l = r2 ++ le4 (more 0 r2) from by rw [HD.out]; rfl)
  clear hal
  generalize more 0 r2 = s at *
  go_wp2
  go_loopw [3, 4, 5] (fun v sv i wr => ∃ (j q : Nat) (D : Option Addr) (cc : Nat) (r : List Nat), j ≤ 4 ∧ i = .int .i64 (j : Int) ∧ q < 4294967296 ∧ Kept (q = s / 256 ^ j) ∧ sv = .int .u32 (q : Int) ∧ v = .slice D r.length cc ∧ Kept (r = r2 ++ (le4 s).take j) ∧
      Own wr w.heap.size 5 (.slice D r.length cc) (BB r) ∧ Below w.heap.size w wr) (fun _ _ i _ => 4 - (intOf i).toNat)
  case atStart => exact ⟨0, s, A2, c2, r2, by omega, rfl, hlt, ⟨by simp⟩, rfl, rfl, ⟨by simp⟩, hown2, hb02⟩
  case round =>
    obtain ⟨j, q, D, cc, r, hj, rfl, hq, hqe, rfl, rfl, hre, hown, hb⟩ := hrel
    have hrl : r.length ≤ 140737488355100 := by rw [hre.out, List.length_append, List.length_take]; simp [le4]; omega
    have hsw := hb.size
    by_cases h0 : j < 4
    · have hb8 : (q : Int) % 256 = ((q % 256 : Nat) : Int) := by omega
      have hz4 : r.length + [q % 256].length ≤ 140737488355328 := by simp; omega
      have hnx : Kept (r ++ [q % 256] = r2 ++ (le4 s).take (j + 1)) := ⟨by
        rw [hre.out, hqe.out]
        have : j = 0 ∨ j = 1 ∨ j = 2 ∨ j = 3 := by omega
        rcases this with rfl | rfl | rfl | rfl <;> simp [le4]⟩
      have hq2 : Kept (q / 256 = s / 256 ^ (j + 1)) := ⟨by rw [hqe.out, Nat.div_div_eq_div_mul, Nat.pow_succ]⟩
      have hq8 : q % 256 < 256 := by omega
      generalize q % 256 = b at *
      have HB8 := kept hb8
      clear hre hqe
      go_wp2_with (at_builtin; refine wpl_app rfl (.tmp 18) (.tmp 22) rfl w.heap.size _ r rfl (hown.alloc _) _ _ _ _ [b] rfl rfl (rd_one wr b) hz4 (by (simp; omega)) ?_; intro A4 c4 w4 r4 hr4 hown4 hg4 hb4)
      go_roundw
      case rel =>
        refine ⟨j + 1, q / 256, A4, c4, r4, by omega, by go_num, by omega, hq2, Crc.val_int (by omega), rfl, ⟨?_⟩, hown4, (hb.alloc hsw _).trans hb4⟩
        rw [hr4.out]; exact hnx.out
      case measure => simp [intOf]; omega
    · have hfin : r = recB l := by rw [HS.out, hre.out, show j = 4 from by omega]; rfl
      have HF := kept hfin
      clear hfin hre hqe
      go_wp2
      go_ret
      rw [← HF.out]
      exact ⟨D, cc, rfl, hown, own_cap hown, hb⟩
theorem bequal_any (B B' : Nat) (A A' : Option Addr) (n m c c' : Nat) (a b : List Nat) (w : World) (hn : n = a.length) (hm : m = b.length) (ha : AllB a) (hb : AllB b) (h1 : Rd w B A (BB a)) (h2 : Rd w B' A' (BB b)) :
    Calls Tryd.prog 83 #[.slice A n c, .slice A' m c'] w fun e w' => e = .returned (.bool (decide (a = b))) ∧ w = w' := by
  subst hn hm
  have s1 := run_str w B A _ c a rfl h1
  have s2 := run_str w B' A' _ c' b rfl h2
  have s3 := str_eq ha hb
  go_enter Tryd.func83, Tryd.ntmps83
  go_wp2
  go_ret
  exact ⟨rfl, rfl⟩
theorem hasprefix_any (B B' : Nat) (A A' : Option Addr) (n m c c' : Nat) (a b : List Nat) (w : World) (hn : n = a.length) (hm : m = b.length) (hc : a.length ≤ c) (ha : AllB a) (hb : AllB b) (h1 : Rd w B A (BB a)) (h2 : Rd w B' A' (BB b)) (hcc : c ≤ 9223372036854775807) (hmm : b.length ≤ 9223372036854775807) :
    Calls Tryd.prog 82 #[.slice A n c, .slice A' m c'] w fun e w' => e = .returned (.bool (decide (b <+: a))) ∧ w = w' := by
  subst hn hm
  by_cases hle : b.length ≤ a.length
  · have h3 := h1.take b.length
    rw [BB_take] at h3
    have hlen : (a.take b.length).length = b.length := by rw [List.length_take]; omega
    have C := kept (bequal_any B B' A A' b.length b.length c c' (a.take b.length) b w hlen.symm rfl (fun x hx => ha x (List.mem_of_mem_take hx)) hb h3 h2)
    have e : decide (a.take b.length = b) = decide (b <+: a) := decide_eq_decide.2 (by rw [List.prefix_iff_eq_take]; exact eq_comm)
    rw [e] at C
    have hbc : b.length ≤ c := by omega
    generalize decide (b <+: a) = r at *
    generalize a.length = N at *
    generalize b.length = M at *
    clear h1 h2 h3 hlen e
    go_enter Tryd.func82, Tryd.ntmps82
    go_wp2_with fail
    refine C.out.mono ?_
    rintro e w' ⟨rfl, rfl⟩
    go_wp2
    go_ret
    exact ⟨rfl, rfl⟩
  · have e : decide (b <+: a) = false := decide_eq_false fun h => hle h.length_le
    rw [e]
    clear e h1 h2
    generalize a.length = N at *
    generalize b.length = M at *
    go_enter Tryd.func82, Tryd.ntmps82
    go_wp2
    go_ret
    exact ⟨rfl, rfl⟩
/-- what wal.one gives -/
def NoneG (w : World) (en : Ending) (w' : World) : Prop := en = .returned (.tuple #[.slice none 0 0, .int .i64 0]) ∧ Below w.heap.size w w'
def SomeG (w : World) (r : List Nat) (en : Ending) (w' : World) : Prop := ∃ A c, en = .returned (.tuple #[.slice A r.length c, .int .i64 ((recB r).length : Int)]) ∧ Own w' w.heap.size 5 (.slice A r.length c) (BB r) ∧ Below w.heap.size w w'
def OneG (w : World) (o : Option (List Nat)) (en : Ending) (w' : World) : Prop := (o = none → NoneG w en w') ∧ ∀ r, o = some r → SomeG w r en w'
theorem oneG_none {w w' : World} {en : Ending} {o : Option (List Nat)} (h : o = none) (k : NoneG w en w') : OneG w o en w' := ⟨fun _ => k, fun r hr => (by rw [h] at hr; cases hr)⟩
theorem oneG_some {w w' : World} {en : Ending} {o : Option (List Nat)} {r : List Nat} (h : o = some r) (k : SomeG w r en w') : OneG w o en w' := ⟨fun h2 => (by rw [h] at h2; cases h2), fun r' hr => (by rw [h] at hr; obtain rfl := Option.some.inj hr; exact k)⟩
theorem read_next_le {l : List Nat} (_ : (readAt l 0).err = 0) : (readAt l 0).next ≤ l.length := by
  unfold readAt
  split
  · simp
  · split
    · simp
    · split
      · simp
      · split
        · simp
        · rename_i h; simp only; omega
theorem read_zero {l : List Nat} : ((readAt l 0).err ≠ 0 → (readAt l 0).next = 0 ∧ (readAt l 0).v = 0) ∧ ((readAt l 0).err = 0 → 0 < (readAt l 0).next) := by
  unfold readAt
  split
  · exact ⟨fun _ => ⟨rfl, rfl⟩, fun h => by cases h⟩
  · split
    · exact ⟨fun _ => ⟨rfl, rfl⟩, fun h => by cases h⟩
    · split
      · exact ⟨fun _ => ⟨rfl, rfl⟩, fun h => by cases h⟩
      · split
        · exact ⟨fun _ => ⟨rfl, rfl⟩, fun h => by cases h⟩
        · exact ⟨fun h => absurd rfl h, fun _ => by simp only; omega⟩
set_option maxHeartbeats 1000000 in
theorem one_any (A : Option Addr) (n c : Nat) (l : List Nat) (w : World) (hn : n = l.length) (hT : Tab w) (hl : AllB l) (hle : l.length ≤ c) (hc : c ≤ 9223372036854775807) (hr : Rd w w.heap.size A (BB l)) (hsz : l.length ≤ 140737488355000) :
    Calls Tryd.prog 73 #[.slice A n c] w (OneG w (oneM l)) := by
  subst hn
  have C1 := kept (read_any A l.length c l 0 w rfl hl hle (by omega) hr)
  have hrn := readNum_nat l 0
  simp only [Int.natCast_zero] at hrn
  rw [hrn] at C1
  have HT := kept (fun (W : World) (h : Below w.heap.size w W) => hT.next h)
  have HR := kept (fun (W : World) (h : Below w.heap.size w W) => hr.next h)
  obtain ⟨z1, z2⟩ := read_zero (l := l)
  have hnl := read_next_le (l := l)
  by_cases he : (readAt l 0).err = 0
  · have hn0 := z2 he
    have hnl2 := hnl he
    clear hnl
    have hnl := hnl2
    clear hnl2
    have hone : oneM l = if (readAt l 0).next + (readAt l 0).v + 4 ≤ l.length ∧ recB ((l.drop (readAt l 0).next).take (readAt l 0).v) <+: l then some ((l.drop (readAt l 0).next).take (readAt l 0).v) else none := by
      unfold oneM
      by_cases hq : (readAt l 0).next + (readAt l 0).v + 4 ≤ l.length ∧ recB ((l.drop (readAt l 0).next).take (readAt l 0).v) <+: l
      · rw [if_pos ⟨he, hq.1, hq.2⟩, if_pos hq]
      · rw [if_neg (fun h => hq ⟨h.2.1, h.2.2⟩), if_neg hq]
    have hv64 := (read_back hl he).2.2.1
    generalize readAt l 0 = o at *
    obtain ⟨ov, on, oe⟩ := o
    dsimp only at he hn0 hnl hone hv64
    subst he
    have HONE := kept hone
    clear hone z1 z2 hrn hr hT
    by_cases hbig : l.length - on < ov
    · have HE : Kept (oneM l = none) := ⟨by rw [HONE.out, if_neg]; intro h; omega⟩
      clear HONE
      have hn0' : ((on : Int) == 0) = false := by rw [beq_eq_false_iff_ne]; omega
      go_enter Tryd.func73, Tryd.ntmps73
      go_wp2_with fail
      refine C1.out.mono ?_
      rintro e w1 ⟨rfl, hb1⟩
      unfold outV
      go_wp2
      go_ret2
      exact oneG_none HE.out ⟨rfl, hb1⟩
    · by_cases hsm : l.length < on + ov + 4
      · have HE : Kept (oneM l = none) := ⟨by rw [HONE.out, if_neg]; intro h; omega⟩
        clear HONE
        have hn0' : ((on : Int) == 0) = false := by rw [beq_eq_false_iff_ne]; omega
        go_enter Tryd.func73, Tryd.ntmps73
        go_wp2_with fail
        refine C1.out.mono ?_
        rintro e w1 ⟨rfl, hb1⟩
        unfold outV
        go_wp2
        go_ret2
        exact oneG_none HE.out ⟨rfl, hb1⟩
      · obtain ⟨r, hrr⟩ : ∃ r, (l.drop on).take ov = r := ⟨_, rfl⟩
        have hrlen : r.length = ov := by rw [← hrr, List.length_take, List.length_drop]; omega
        have hral : AllB r := by rw [← hrr]; exact fun x hx => hl x (List.mem_of_mem_drop (List.mem_of_mem_take hx))
        rw [hrr] at HONE
        have HRD : Kept (∀ W, Below w.heap.size w W → Rd W W.heap.size (A.map (·.add on)) (BB r)) := ⟨fun W hW => by
          have h1 := (HR.out W hW).drop on c l.length hnl hle (BB_length l)
          rw [if_neg (by omega), BB_drop] at h1
          have h2 := h1.take ov
          rw [BB_take, hrr] at h2
          exact h2⟩
        have HRL := kept hrlen
        have hn0' : ((on : Int) == 0) = false := by rw [beq_eq_false_iff_ne]; omega
        have HM : Kept (on + ov - on = r.length) := ⟨by rw [HRL.out]; omega⟩
        have hcn : ¬ c = on := by omega
        have hoc : on + ov ≤ c := by omega
        have hol : on + ov + 4 ≤ l.length := by omega
        have hrb := recB_le r
        have hrl2 : r.length ≤ ov := by omega
        clear hrr hrlen
        go_enter Tryd.func73, Tryd.ntmps73
        go_wp2_with fail
        refine C1.out.mono ?_
        rintro e w1 ⟨rfl, hb1⟩
        unfold outV
        have hrd1 := HRD.out w1 hb1
        have hz : ([] : List Nat).length + r.length ≤ 140737488355328 := by simp; omega
        go_wp2_with (at_builtin; refine wpl_app rfl (.const (.slice none 0 0)) (.tmp 42) rfl w.heap.size _ [] rfl (Own.nilv _ _ _) w1.heap.size _ _ _ r rfl HM.out hrd1 hz hb1.size ?_; intro A2 c2 w2 r2 hr2 hown2 hg2 hb2)
        obtain rfl : r2 = r := hr2.out
        have hb12 := hb1.trans hb2
        have C3 := kept (put_any A2 r2.length c2 r2 w2 rfl (HT.out w2 hb12) hral hown2.rd (by omega))
        have HO2 := kept hown2
        have HB2 := kept hb12
        have HR2 := kept (HR.out w2 hb12)
        clear hr2 hown2 hg2 hb2 hb12 hrd1 hb1
        go_wp2_with fail
        refine C3.out.mono ?_
        rintro e w3 ⟨A3, c3, rfl, hown3, hc3, hb3⟩
        have C4 := kept (hasprefix_any _ _ A A3 l.length (recB r2).length c c3 l (recB r2) w3 rfl rfl hle hl (recB_all hral) (HR2.out.next hb3) hown3.rd (by omega) (by omega))
        have HO3 := kept (HO2.out.below hb3 (Nat.le_refl _))
        have HB3 := kept (HB2.out.trans (hb3.mono HB2.out.size))
        clear hown3 hb3 C3
        go_wp2_with fail
        refine C4.out.mono ?_
        rintro e w4 ⟨rfl, rfl⟩
        by_cases hp : recB r2 <+: l
        · have HE : Kept (oneM l = some r2) := ⟨by rw [HONE.out, if_pos ⟨hol, hp⟩]⟩
          rw [decide_eq_true hp]
          clear hp HONE
          go_wp2
          go_ret2
          exact oneG_some HE.out ⟨A2, c2, rfl, HO3.out, HB3.out⟩
        · have HE : Kept (oneM l = none) := ⟨by rw [HONE.out, if_neg (fun h => hp h.2)]⟩
          rw [decide_eq_false hp]
          clear hp HONE
          go_wp2
          go_ret2
          exact oneG_none HE.out ⟨rfl, HB3.out⟩
  · obtain ⟨h1, h2⟩ := z1 he
    have HE : Kept (oneM l = none) := ⟨by unfold oneM; rw [if_neg]; exact fun h => he h.1⟩
    generalize readAt l 0 = o at *
    obtain ⟨ov, on, oe⟩ := o
    dsimp only at he h1 h2
    subst h1 h2
    clear he z1 z2 hnl hrn hr hT
    go_enter Tryd.func73, Tryd.ntmps73
    go_wp2_with fail
    refine C1.out.mono ?_
    rintro e w1 ⟨rfl, hb1⟩
    unfold outV
    go_wp2
    go_ret2
    exact oneG_none HE.out ⟨rfl, hb1⟩
end Go.Proofs.YtdlghabpnpbebaaDoor.Wal
