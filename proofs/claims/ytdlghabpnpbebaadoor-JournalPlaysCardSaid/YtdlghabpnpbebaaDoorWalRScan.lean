/- Layer 23 (wal): the walk of the document's Scan. -/
import Derived.Test.YtdlghabpnpbebaaDoorWalScan
import Derived.Test.YtdlghabpnpbebaaDoorNumWalksD
import Derived.Deep.RegionWith
import Derived.Deep.DrawnRows
import Derived.Deep.CutBlock
import Derived.IntWalk
import Derived.Deep.DeepCutAuto
namespace Go.Proofs.YtdlghabpnpbebaaDoor.Wal
open Go.RowKit Go.Proofs.YtdlghabpnpbebaaDoor.Mem Go.Proofs.YtdlghabpnpbebaaDoor.Num Go.Proofs.YtdlghabpnpbebaaDoor.Crc Go.Proofs.YtdlghabpnpbebaaDoor.Shift

theorem read_next_eq {b : List Nat} (hb : AllB b) (h : (readAt b 0).err = 0) : (readAt b 0).next = 1 + lenB (readAt b 0).v := by
  obtain ⟨h1, h2, h3, h4⟩ := read_back hb h
  have := congrArg List.length h4
  rw [numB_length, List.length_take, List.drop_zero] at this
  omega
/-- the record at the front, told as the document does -/
theorem one_doc {b : List Nat} (hb : AllB b) (h : (readAt b 0).err = 0) (hf : (readAt b 0).next + (readAt b 0).v + 4 ≤ b.length) :
    oneM b = if recB ((b.drop (readAt b 0).next).take (readAt b 0).v) = b.take ((readAt b 0).next + (readAt b 0).v + 4) then some ((b.drop (readAt b 0).next).take (readAt b 0).v) else none := by
  have hn := read_next_eq hb h
  have hl : ((b.drop (readAt b 0).next).take (readAt b 0).v).length = (readAt b 0).v := by rw [List.length_take, List.length_drop]; omega
  have hrl := recB_length ((b.drop (readAt b 0).next).take (readAt b 0).v)
  rw [hl, ← hn] at hrl
  unfold oneM
  by_cases hp : recB ((b.drop (readAt b 0).next).take (readAt b 0).v) = b.take ((readAt b 0).next + (readAt b 0).v + 4)
  · rw [if_pos hp, if_pos ⟨h, hf, by rw [hp]; exact List.take_prefix _ _⟩]
  · rw [if_neg hp, if_neg]
    rintro ⟨_, _, h3⟩
    exact hp (by rw [← hrl]; exact List.prefix_iff_eq_take.1 h3)
theorem one_few {b : List Nat} (h : ¬ ((readAt b 0).err = 0 ∧ (readAt b 0).next + (readAt b 0).v + 4 ≤ b.length)) : oneM b = none := by
  unfold oneM
  rw [if_neg]
  exact fun h2 => h ⟨h2.1, h2.2.1⟩
set_option maxRecDepth 100000 in
set_option maxHeartbeats 4000000 in
theorem rscan_any (A : Option Addr) (n c : Nat) (l : List Nat) (w : World) (hn : n = l.length) (hl : AllB l) (hle : l.length ≤ c) (hc : c ≤ 9223372036854775807) (hr : Rd w w.heap.size A (BB l)) (hsz : l.length ≤ 17592186044000) :
    Calls Tryd.prog 43 #[.slice A n c] w (ScanG w l) := by
  subst hn
  have HR := kept (fun (W : World) (h : Below w.heap.size w W) => hr.next h)
  clear hr
  go_enter Tryd.func43, Tryd.ntmps43
  go_wp2
  go_loopw [4, 5] (fun v i wr => ∃ (X : Option Addr) (cc : Nat) (ps : List Part) (e : Nat), v = .slice X ps.length cc ∧ i = .int .i64 (e : Int) ∧ e ≤ l.length ∧ Kept (l = recsB (bodies ps) ++ l.drop e) ∧ OwnParts wr w.heap.size X cc ps ∧ Below w.heap.size w wr) (fun _ i _ => l.length - (intOf i).toNat)
  case atStart => exact ⟨none, 0, [], 0, rfl, rfl, Nat.zero_le _, ⟨by simp [bodies, recsB]⟩, OwnParts.nil _ _, Below.refl _ _⟩
  case round =>
    obtain ⟨X, cc, ps, e, rfl, rfl, he, hE, hown, hb⟩ := hrel
    have HO := kept hown
    have HB := kept hb
    clear hown hb
    by_cases hlt : e < l.length
    · have C := kept (rread_any A l.length c l e wr rfl hl hle (by omega) (HR.out wr HB.out))
      rw [show readNum l e = readAt l e from readNum_nat l e, read_drop l e he] at C
      have hald : AllB (l.drop e) := fun x hx => hl x (List.mem_of_mem_drop hx)
      have hld : (l.drop e).length = l.length - e := List.length_drop
      have hlen8 : ps.length * 5 ≤ l.length := by have := recs_count hE.out he; unfold bodies at this; rwa [List.length_map] at this
      have HHE := kept he
      by_cases hq : (readAt (l.drop e) 0).err = 0 ∧ (readAt (l.drop e) 0).next + (readAt (l.drop e) 0).v + 4 ≤ (l.drop e).length
      · obtain ⟨hq1, hq2⟩ := hq
        have hdoc := one_doc hald hq1 hq2
        have hn0 := (read_zero (l := l.drop e)).2 hq1
        generalize readAt (l.drop e) 0 = o at *
        obtain ⟨ov, on, oe⟩ := o
        dsimp only at hq1 hq2 hdoc hn0 C
        subst hq1
        rw [if_pos rfl] at C
        obtain ⟨r, hrr⟩ : ∃ r, ((l.drop e).drop on).take ov = r := ⟨_, rfl⟩
        rw [hrr] at hdoc
        have hrlen : r.length = ov := by rw [← hrr, List.length_take, List.length_drop]; omega
        have hral : AllB r := by rw [← hrr]; exact fun x hx => hald x (List.mem_of_mem_drop (List.mem_of_mem_take hx))
        have hdd : (l.drop (e + on)).take ov = r := by rw [← List.drop_drop]; exact hrr
        have HRD : Kept (∀ W, Below w.heap.size w W → Rd W W.heap.size (A.map (·.add (e + on))) (BB r)) := ⟨fun W hW => by
          have h1 := (HR.out W hW).drop (e + on) c l.length (by omega) hle (BB_length l)
          rw [if_neg (by omega), BB_drop] at h1
          have h2 := h1.take ov
          rw [BB_take, hdd] at h2
          exact h2⟩
        obtain ⟨q, hqq⟩ : ∃ q, (l.drop e).take (on + ov + 4) = q := ⟨_, rfl⟩
        rw [hqq] at hdoc
        have hqlen : q.length = on + ov + 4 := by rw [← hqq, List.length_take]; omega
        have hqal : AllB q := by rw [← hqq]; exact fun x hx => hald x (List.mem_of_mem_take hx)
        have HQD : Kept (∀ W, Below w.heap.size w W → Rd W W.heap.size (A.map (·.add e)) (BB q)) := ⟨fun W hW => by
          have h1 := (HR.out W hW).drop e c l.length (by omega) hle (BB_length l)
          rw [if_neg (by omega), BB_drop] at h1
          have h2 := h1.take (on + ov + 4)
          rw [BB_take, hqq] at h2
          exact h2⟩
        have hrb := recB_le r
        have hr5 := recB_ge r
        have HRL := kept hrlen
        have HM : Kept (e + on + ov - (e + on) = r.length) := ⟨by omega⟩
        have HMQ : Kept (e + on + ov + 4 - e = q.length) := ⟨by omega⟩
        have HQL := kept hqlen
        have hl1 : e + on + ov + 4 ≤ l.length := by omega
        have hl2 : e + on + ov + 4 ≤ c := by omega
        have hl3 : r.length ≤ ov := by omega
        have HDOC := kept hdoc
        have HHE2 := hE
        have hnd : ¬ c = e + on := by omega
        have hne : ¬ c = e := by omega
        clear hrr hrlen hdd hqq hqlen hdoc hld hq2 hE
        go_wp2_with fail
        refine C.out.mono ?_
        rintro e1 w1 ⟨rfl, rfl⟩
        unfold outV
        have hb1 := HB.out
        have hown0 : Own (wr.alloc (.cells #[] 5)) wr.heap.size 5 (.slice (some ⟨wr.heap.size, 0, none⟩) 0 0) (BB []) := Own.new wr wr.heap.size 5 [] (Nat.le_refl _) (by simp)
        have hbA := hb1.alloc hb1.size (.cells #[] 5)
        have hrd1 := HRD.out _ hbA
        have hz : ([] : List Nat).length + r.length ≤ 140737488355328 := by simp; omega
        go_wp2_with (at_builtin; refine wpl_app rfl (.tmp 42) (.tmp 49) rfl wr.heap.size _ [] rfl hown0 _ _ _ _ r rfl HM.out hrd1 hz (by simp) ?_; intro A2 c2 w2 r2 hr2 hown2 hg2 hb2)
        obtain rfl : r2 = r := hr2.out
        have hb12 := hbA.trans (hb2.mono hb1.size)
        have hown2 := hown2.mono hb1.size
        have C3 := kept (fun W (hW : Below w2.heap.size w2 W) => rput_any A2 r2.length c2 r2 W rfl hral (hown2.rd.next hW) (by omega))
        have HO2 := kept hown2
        have HB2 := kept hb12
        have HQ2 := kept (HQD.out w2 hb12)
        have hnx := kept (show Below wr.heap.size wr w2 from ((Below.refl wr.heap.size wr).alloc (Nat.le_refl _) _).trans hb2)
        have s3 := str_eq (recB_all hral) hqal
        have sq := run_str w2 _ _ _ (c - e) q HMQ.out HQ2.out
        have sq2 := run_str w2.drew _ _ _ (c - e) q HMQ.out (Rd.drew HQ2.out)
        clear hr2 hown2 hg2 hb2 hb12 hrd1 hown0 hbA hb1
        have i1 : (0 : Int) ≤ (e : Int) := by omega
        have i2 : (e : Int) ≤ (e : Int) + (on : Int) + (ov : Int) + 4 := by omega
        have i3 : (e : Int) + (on : Int) + (ov : Int) + 4 ≤ (c : Int) := by omega
        have i4 : (0 : Int) ≤ (e : Int) + (on : Int) + (ov : Int) + 4 := by omega
        have i5 : ((e : Int) + (on : Int) + (ov : Int) + 4).toNat = e + on + ov + 4 := by omega
        have w1 : IntKind.i64.wrap (ov : Int) = (ov : Int) := IntWalk.i64_in _ (by omega)
        have w2' : IntKind.i64.wrap ((e : Int) + (on : Int) + (ov : Int)) = (e : Int) + (on : Int) + (ov : Int) := IntWalk.i64_in _ (by omega)
        have w3' : IntKind.i64.wrap ((e : Int) + (on : Int) + (ov : Int) + 4) = (e : Int) + (on : Int) + (ov : Int) + 4 := IntWalk.i64_in _ (by omega)
        go_cut [63] (fun p wx => p = .bool (!decide (recB r2 = q)) ∧ Below w2.heap.size w2 wx)
        case first =>
          go_region_with ((go_at_call 48; refine (C3.out _ ?_).mono ?_; (first | exact Below.refl _ _ | exact (Below.refl _ _).drew); rintro e3 w3 ⟨A3, c3, rfl, ho3, hc3, hb3⟩; have hbw : Below w2.heap.size w2 w3 := (by first | exact hb3 | exact ((Below.refl _ _).drew).trans hb3); have t1 := run_str w3 _ A3 _ c3 (recB r2) rfl ho3.rd; have t2 := run_str w3 _ _ _ (c - e) q HMQ.out (HQ2.out.next hbw)))
          all_goals
            have HB3 := kept hbw
            clear t1 t2 hb3 ho3 hbw
            go_wp2
            go_meet
            exact ⟨by first | rfl | simp, HB3.out⟩
        obtain ⟨rfl, hbw⟩ := hcut
        have HW := kept hbw
        clear i1 i2 i3 i4 i5 w1 w2' w3' sq sq2 s3 hbw C3 HQ2 hqal C
        obtain ⟨wy, rfl⟩ : ∃ w, w = wc := ⟨_, rfl⟩
        have HP := kept (HO.out.next (below_next hnx.out HW.out))
        have HB3 := kept (HB2.out.trans (HW.out.mono HB2.out.size))
        have HR2 := kept (HO2.out.below HW.out (Nat.le_refl _))
        clear HO HO2 hnx
        by_cases heq : recB r2 = q
        · have hone : oneM (l.drop e) = some r2 := by rw [HDOC.out, if_pos heq]
          obtain ⟨hst, hst2⟩ := scans_step HHE2.out hone
          have hrlq : (recB r2).length = on + ov + 4 := by rw [heq, HQL.out]
          rw [hrlq, show e + (on + ov + 4) = e + on + ov + 4 from by omega] at hst
          have HST := kept hst
          rw [decide_eq_true heq]
          have ho3 := HP.out.next ((Below.refl wy.heap.size wy).alloc (Nat.le_refl _) (.cells #[.slice A2 r2.length c2] 22))
          have hp3 := HR2.out.alloc (.cells #[.slice A2 r2.length c2] 22)
          have hr3 := Rd.new wy [.slice A2 r2.length c2] 22
          have hs2 := HB3.out.size
          have hb4 := kept (HB3.out.alloc hs2 (.cells #[.slice A2 r2.length c2] 22))
          obtain ⟨p, hpp⟩ : ∃ p : Part, p = ⟨A2, r2, c2⟩ := ⟨_, rfl⟩
          have hp3 : Own (wy.alloc (.cells #[.slice A2 r2.length c2] 22)) w.heap.size 5 p.val (BB p.l) := by rw [hpp]; exact hp3
          have hr3 : Rd (wy.alloc (.cells #[.slice A2 r2.length c2] 22)) (wy.heap.size + 1) (some ⟨wy.heap.size, 0, none⟩) [p.val] := by rw [hpp]; exact hr3
          have hpa : AllB p.l := by rw [hpp]; exact hral
          have hpl : p.l.length ≤ 140737488355328 := by rw [hpp]; show r2.length ≤ _; omega
          have HPP := kept hpp
          clear hpp heq hone hst hrlq hst2
          go_wp2_with (at_builtin; refine wpl_appP rfl (.tmp 66) (.tmp 68) rfl w.heap.size X cc ps rfl ho3 p hp3 hpa hpl _ _ _ rfl hr3 (by omega) (by simp; omega) ?_; intro A3 c3 w3 ps3 hps3 hown3 hb5)
          have HB5 := kept (hb4.out.trans hb5)
          have HE3 : Kept (l = recsB (bodies ps3) ++ l.drop (e + on + ov + 4)) := ⟨by
            have : bodies ps3 = bodies ps ++ [r2] := by rw [hps3.out, HPP.out]; simp [bodies]
            rw [this]
            exact HST.out⟩
          clear hb5 hps3 ho3 hp3 hr3
          go_roundw
          case rel => exact ⟨A3, c3, ps3, e + on + ov + 4, rfl, by go_num, hl1, HE3, hown3, HB5.out⟩
          case measure => simp [intOf]; omega
        · have hone : oneM (l.drop e) = none := by rw [HDOC.out, if_neg heq]
          have HS := kept (scans_here HHE2.out HHE.out hone)
          rw [decide_eq_false heq]
          clear heq hone
          go_wp2
          go_ret2
          exact ⟨X, cc, ps, e, rfl, HS.out, HP.out, HB3.out⟩
      · have hone := one_few hq
        have HS := kept (scans_here hE.out he hone)
        have hz := read_zero (l := l.drop e)
        have hneq := fun h => read_next_eq hald h
        have hvb : (readAt (l.drop e) 0).v < 18446744073709551616 := by
          by_cases h : (readAt (l.drop e) 0).err = 0
          · exact (read_back hald h).2.2.1
          · rw [(hz.1 h).2]; decide
        generalize readAt (l.drop e) 0 = o at *
        obtain ⟨ov, on, oe⟩ := o
        dsimp only at hq hz C hvb hneq
        clear hone hE
        by_cases h0 : oe = 0
        · subst h0
          rw [if_pos rfl] at C
          have hq2 : ¬ (on + ov + 4 ≤ l.length - e) := fun h => hq ⟨rfl, by rw [hld]; exact h⟩
          have hon9 : on ≤ 9 := by have := hneq rfl; have := lenB_le ov; omega
          clear hq hz hneq hald hld
          by_cases hbig : l.length < ov
          · go_wp2_with fail
            refine C.out.mono ?_
            rintro e1 w1 ⟨rfl, rfl⟩
            unfold outV
            go_wp2
            go_ret2
            exact ⟨X, cc, ps, e, rfl, HS.out, HO.out, HB.out⟩
          · go_wp2_with fail
            refine C.out.mono ?_
            rintro e1 w1 ⟨rfl, rfl⟩
            unfold outV
            go_wp2
            go_ret2
            exact ⟨X, cc, ps, e, rfl, HS.out, HO.out, HB.out⟩
        · obtain ⟨hon, hov⟩ := hz.1 h0
          subst hon hov
          rw [if_neg h0] at C
          have hb : ((oe : Int) != 0) = true := by simp; omega
          clear hq hz hneq hald hld h0
          go_wp2_with fail
          refine C.out.mono ?_
          rintro e1 w1 ⟨rfl, rfl⟩
          unfold outV
          go_wp2
          go_ret2
          exact ⟨X, cc, ps, e, rfl, HS.out, HO.out, HB.out⟩
    · have hnone : oneM (l.drop e) = none := by rw [List.drop_eq_nil_of_le (by omega)]; exact one_nil
      have HS := kept (scans_here hE.out he hnone)
      clear hnone hE
      go_wp2
      go_ret2
      exact ⟨X, cc, ps, e, rfl, HS.out, HO.out, HB.out⟩
end Go.Proofs.YtdlghabpnpbebaaDoor.Wal
