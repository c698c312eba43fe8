/- Layer 50 (change): change.with. -/
import Derived.Test.YtnmcclkpgbdenaaChgInsL
import Derived.Test.YtnmcclkpgbdenaaSet27
import Derived.Test.YtnmcclkpgbdenaaCardCopy
import Derived.Test.YtnmcclkpgbdenaaSet13
namespace Go.Proofs.Ytnmcclkpgbdenaa.Chg
open Go.RowKit Go.Proofs.Ytnmcclkpgbdenaa.Mem Go.Proofs.Ytnmcclkpgbdenaa.Card

/-- a call gives a card of its own that is this one with another line of a field, or without one -/
def Withs (w : World) (x : CardM) (z : LineM) (d : Bool) (en : Ending) (w' : World) : Prop := ∃ y : CardM, en = .returned y.val ∧ y.p = (withK x z d).p ∧ y.Fresh w' w.heap.size ∧ Below w.heap.size w w'
/-- the state of the walk: the card's variable, the line's, the result's -/
structure WS (w W : World) (y : CardM) (z : LineM) : Prop where
  below : Below w.heap.size w W
  size : w.heap.size + 3 ≤ W.heap.size
  k3 : Blk W w.heap.size y.cells 38
  k4 : Blk W (w.heap.size + 1) z.cells 41
  k6 : Blk W (w.heap.size + 1 + 1) [.int .u64 0, .slice none 0 0] 38
  fr : y.Fresh W (w.heap.size + 3)
section
variable {w W W1 : World} {y : CardM} {z : LineM}
theorem WS.next (h : WS w W y z) (hb : Below W.heap.size W W1) : WS w W1 y z :=
  ⟨h.below.trans (hb.mono h.below.size), Nat.le_trans h.size hb.size, h.k3.next hb, h.k4.next hb, h.k6.next hb, h.fr.below hb (Nat.le_refl _)⟩
theorem WS.strs (h : WS w W y z) (hu : Upd (fun k => (Value.slice y.X y.ls.length y.c).ownBlock = some k) W W1) {u : LineM} (hm : u ∈ y.ls) : u.f < 256 ∧ u.m.length ≤ 8796093022208 ∧ strE.Own W1 (w.heap.size + 3) 9 (.slice u.A u.m.length u.c) u.m := by
  obtain ⟨h1, h2, h3⟩ := h.fr.2.2.2 u hm
  exact ⟨h1, h2, h3.upd hu fun k hk e => own_apart h3 h.fr.2.1 (by decide) k hk e⟩
theorem WS.row (h : WS w W y z) {A1 : Option Addr} {c1 : Nat} {ls1 : List LineM} (hu : Upd (fun k => (Value.slice y.X y.ls.length y.c).ownBlock = some k) W W1) (ho : lineE.Own W1 (w.heap.size + 3) 41 (.slice A1 ls1.length c1) ls1)
    (hls : ∀ u ∈ ls1, u.f < 256 ∧ u.m.length ≤ 8796093022208 ∧ strE.Own W1 (w.heap.size + 3) 9 (.slice u.A u.m.length u.c) u.m) (hn : ls1.length ≤ 2932031007402) :
    WS w (W1.setCell ⟨w.heap.size, 1, none⟩ (.slice A1 ls1.length c1)) ⟨y.cid, A1, ls1, c1⟩ z := by
  have hlow : ∀ k, (Value.slice y.X y.ls.length y.c).ownBlock = some k → w.heap.size + 3 ≤ k := fun k hk => (OwnK.under h.fr.2.1 k hk).1
  have hB : Below (w.heap.size + 3) W W1 := hu.below h.size fun k _ hk => hlow k hk
  have k3 := h.k3.below hB (by omega)
  have k4 := h.k4.below hB (by omega)
  have k6 := h.k6.below hB (by omega)
  refine ⟨(h.below.trans (hB.mono (by omega))).setCell (p := ⟨w.heap.size, 1, none⟩) (Nat.le_refl _) _, ?_, k3.set 1 (.slice A1 ls1.length c1), k4.other (p := ⟨w.heap.size, 1, none⟩) (by simp) _, k6.other (p := ⟨w.heap.size, 1, none⟩) (by simp; omega) _, ?_⟩
  · have := h.size; have := hB.size; simp [World.setCell]; omega
  · exact CardM.Fresh.low (y := ⟨y.cid, A1, ls1, c1⟩) ⟨h.fr.1, ho, hn, hls⟩ (p := ⟨w.heap.size, 1, none⟩) (by simp) _
theorem WS.more (h : WS w W y z) (A1 : Option Addr) (c1 : Nat) : WS w (W.setCell ⟨w.heap.size + 1, 2, none⟩ (.slice A1 z.m.length c1)) y ⟨z.f, z.t, A1, z.m, c1⟩ :=
  ⟨h.below.setCell (p := ⟨w.heap.size + 1, 2, none⟩) (by simp) _, by have := h.size; simp [World.setCell]; omega, h.k3.other (p := ⟨w.heap.size + 1, 2, none⟩) (by simp) _, h.k4.set 2 _, h.k6.other (p := ⟨w.heap.size + 1, 2, none⟩) (by simp) _, h.fr.low (p := ⟨w.heap.size + 1, 2, none⟩) (by simp) _⟩
theorem WS.start (w : World) (x : CardM) (z : LineM) {W1 W2 : World} {y : CardM} (W0 : World) (h0 : Below w.heap.size w W0) (hs0 : w.heap.size + 3 ≤ W0.heap.size) (k3 : Blk W0 w.heap.size x.cells 38) (k4 : Blk W0 (w.heap.size + 1) z.cells 41) (k6 : Blk W0 (w.heap.size + 1 + 1) [.int .u64 0, .slice none 0 0] 38)
    (hf : y.Fresh W1 W0.heap.size) (hb : Below W0.heap.size W0 W1) (hk2 : Blk W2 w.heap.size y.cells 38) (hu : Upd (fun k => k = w.heap.size) W1 W2) : WS w W2 y z := by
  have hs1 := hb.size
  have hB : Below w.heap.size W1 W2 := hu.below (by omega) fun k _ e => by omega
  have kk : ∀ {g : Nat} {cs : List Value} {t : TypeId}, Blk W0 g cs t → g ≠ w.heap.size → Blk W2 g cs t := fun hk hg => ((hu.block _ (Nat.lt_of_lt_of_le hk.lt hs1) hg).trans (hk.next hb))
  refine ⟨(h0.trans (hb.mono h0.size)).trans hB, by have := hu.size; omega, hk2, kk k4 (by omega), kk k6 (by omega), ?_⟩
  have hf2 := hf.mono hs0
  have hne : ∀ {v : Value} {n s : Nat} {t : TypeId} {xs : List Value}, OwnK s W1 W0.heap.size t v n xs → ∀ k, v.ownBlock = some k → ¬ k = w.heap.size := fun ho k hk e => by have := (OwnK.under ho k hk).1; omega
  exact ⟨hf2.1, (hf.2.1.upd hu (hne hf.2.1)).mono hs0, hf2.2.2.1, fun u hu2 => ⟨(hf.2.2.2 u hu2).1, (hf.2.2.2 u hu2).2.1, ((hf.2.2.2 u hu2).2.2.upd hu (hne (hf.2.2.2 u hu2).2.2)).mono hs0⟩⟩
theorem WS.apart (h : WS w W y z) (hu : Upd (fun k => (Value.slice y.X y.ls.length y.c).ownBlock = some k) W W1) : Below (w.heap.size + 3) W W1 := hu.below h.size fun k _ hk => (OwnK.under h.fr.2.1 k hk).1
/-- the end: the result's variable holds the card -/
theorem WS.done (h : WS w W y z) (hk : Blk W1 (w.heap.size + 1 + 1) y.cells 38) (hu : Upd (fun k => k = w.heap.size + 1 + 1) W W1) : y.Fresh W1 w.heap.size ∧ Below w.heap.size w W1 := by
  have hsz := h.size
  have hne : ∀ {v : Value} {n s : Nat} {t : TypeId} {xs : List Value}, OwnK s W (w.heap.size + 3) t v n xs → ∀ k, v.ownBlock = some k → ¬ k = w.heap.size + 1 + 1 := fun ho k hk e => by have := (OwnK.under ho k hk).1; omega
  refine ⟨⟨h.fr.1, (h.fr.2.1.upd hu (hne h.fr.2.1)).mono (by omega), h.fr.2.2.1, fun u hm => ⟨(h.fr.2.2.2 u hm).1, (h.fr.2.2.2 u hm).2.1, ((h.fr.2.2.2 u hm).2.2.upd hu (hne (h.fr.2.2.2 u hm).2.2)).mono (by omega)⟩⟩, h.below.trans (hu.below (by omega) fun k _ e => by omega)⟩
end
theorem noF_p (f : Nat) : ∀ {a b : List LineM}, a.map LineM.p = b.map LineM.p → (noF f a).map LineM.p = (noF f b).map LineM.p
  | [], [], _ => rfl
  | [], _ :: _, h => by simp at h
  | _ :: _, [], h => by simp at h
  | u :: a, v :: b, h => by
    rw [List.map_cons, List.map_cons] at h
    injection h with h1 h2
    have e1 := (line_p.1 h1).1
    have ih := noF_p f h2
    unfold noF isF at ih ⊢
    simp only [List.filter_cons, e1]
    split
    · rw [List.map_cons, List.map_cons, ih, h1]
    · exact ih
theorem sortedL_p {a b : List LineM} (h : a.map LineM.p = b.map LineM.p) (hs : SortedL a) : SortedL b := by
  intro i j x y hx hy hij
  obtain ⟨u, hu, h1⟩ := map_get h.symm hx
  obtain ⟨v, hv, h2⟩ := map_get h.symm hy
  rw [(line_p.1 h1).1, (line_p.1 h2).1]
  exact hs i j u v hu hv hij
set_option maxRecDepth 100000 in
set_option maxHeartbeats 4000000 in
theorem with_any (x : CardM) (z : LineM) (d : Bool) (w : World) (hx : x.Ok w w.heap.size) (hz : z.Ok w w.heap.size) (hs : SortedL x.ls) (hsz : x.ls.length ≤ 100000) :
    Calls Try.prog 84 #[x.val, z.val, .bool d] w (Withs w x z d) := by
  obtain ⟨W0, hW0⟩ : ∃ W0, ((w.alloc (.cells #[.int .u64 (x.cid : Int), .slice x.X x.ls.length x.c] 38)).alloc (.cells #[.int .u8 (z.f : Int), .string z.t, .slice z.A z.m.length z.c] 41)).alloc (.cells #[.int .u64 0, .slice none 0 0] 38) = W0 := ⟨_, rfl⟩
  have hb0 : Below w.heap.size w W0 := by rw [← hW0]; exact (((Below.refl _ _).alloc (Nat.le_refl _) _).alloc (by simp) _).alloc (by simp; omega) _
  have hs0 : W0.heap.size = w.heap.size + 3 := by rw [← hW0]; simp
  have k3 : Blk W0 w.heap.size x.cells 38 := by rw [← hW0]; exact ((Blk.new w x.cells _).alloc _).alloc _
  have k4 : Blk W0 (w.heap.size + 1) z.cells 41 := by rw [← hW0]; exact (Blk.newAt _ z.cells _ (by simp)).alloc _
  have k6 : Blk W0 (w.heap.size + 1 + 1) [.int .u64 0, .slice none 0 0] 38 := by rw [← hW0]; exact Blk.newAt _ _ _ (by simp)
  have CP := kept (copy_any x W0 (hx.next hb0))
  have HX := kept hx
  have HZ := kept hz
  have HS := kept hs
  have HST : Kept (∀ W1 W2 (y : CardM), y.Fresh W1 W0.heap.size → Below W0.heap.size W0 W1 → Blk W2 w.heap.size y.cells 38 → Upd (fun k => k = w.heap.size) W1 W2 → WS w W2 y z) := ⟨fun W1 W2 y h1 h2 h3 h4 => WS.start w x z W0 hb0 (by omega) k3 k4 k6 h1 h2 h3 h4⟩
  have K3 := kept k3
  clear hb0 hs0 k3 k4 k6 hx hz hs
  unfold CardM.val LineM.val
  go_enter Try.func84, Try.ntmps84
  have q0 : W0.cell? ⟨w.heap.size, 0, none⟩ = some (.int .u64 (x.cid : Int)) := K3.out.cell (j := 0) rfl
  have q1 : W0.cell? ⟨w.heap.size, 1, none⟩ = some (.slice x.X x.ls.length x.c) := K3.out.cell (j := 1) rfl
  go_wp2_with fail
  refine CP.out.mono ?_
  rintro e w1 ⟨y, rfl, hyp, hyf, hb1⟩
  clear hW0 CP q0 q1
  have HK1 := kept (K3.out.next hb1)
  have HS1 := kept (fun W2 => HST.out w1 W2 y hyf hb1)
  have HYP := kept hyp
  clear hyp hyf hb1 K3 HST
  obtain ⟨ycid, yX, yls, yc⟩ := y
  unfold CardM.val
  have hk1 := HK1.out
  obtain ⟨hpc, hpl⟩ := card_p.1 HYP.out
  have HLN : Kept (yls.length = x.ls.length) := ⟨by have := congrArg List.length hpl; simpa using this⟩
  have HSL := kept (sortedL_p hpl.symm HS.out)
  have CD : Kept (∀ W, WS w W ⟨ycid, yX, yls, yc⟩ z → _) := ⟨fun W h => dell_any (w.heap.size + 3) yX yc yls z.f (w.heap.size + 1) W h.fr.2.1 h.fr.ok.2.1.2 (h.k4.cell (j := 0) rfl) (by omega) h.size (by have := HLN.out; omega)⟩
  clear hpc hpl
  go_wp2_with (refine wpl_storeB rfl _ _ _ rfl w.heap.size [.int .u64 (ycid : Int), .slice yX yls.length yc] rfl rfl _ _ hk1 rfl rfl rfl ?_; intro w2 hk2 hu2; have HS2 := kept (HS1.out w2 hk2 hu2); have q1 := hk2.cell (j := 1) rfl; clear hk2 hu2 hk1 HS1 HK1)
  refine (CD.out w2 HS2.out).mono ?_
  rintro e w3 ⟨A3, c3, rfl, ho3, hu3⟩
  clear CD q1
  have HS3 := kept (HS2.out.row hu3 ho3 (fun u hu => HS2.out.strs hu3 (List.mem_filter.1 hu).1) (by have h1 : (noF z.f yls).length ≤ yls.length := List.length_filter_le _ _; have := HLN.out; omega))
  have hk3 := HS2.out.k3.below (HS2.out.apart hu3) (by omega)
  have q2 := hk3.cell (j := 1) rfl
  have q3 := hk3.frozen 1
  have HNF : Kept (SortedL (noF z.f yls)) := ⟨noF_sorted HSL.out⟩
  have HNL : Kept ((noF z.f yls).length ≤ yls.length) := ⟨List.length_filter_le _ _⟩
  have HNS : Kept (∀ (x2 : LineM) (i : Nat), x2.f = z.f → PosAtL (noF z.f yls) z.f i → setR x2 false yls = (noF z.f yls).take i ++ x2 :: (noF z.f yls).drop i) := ⟨fun x2 i h1 h2 => by
    rw [← h1] at h2 ⊢
    exact set_at HSL.out h2⟩
  have HND : Kept (setR z true yls = noF z.f yls) := ⟨setR_done z yls⟩
  clear hk3 ho3 hu3 HS2
  generalize noF z.f yls = nl at *
  go_upto_region 3 with fail
  clear q2 q3
  generalize w3.setCell ⟨w.heap.size, 1, none⟩ (.slice A3 nl.length c3) = W3 at *
  cases d with
  | true =>
    have q0 := HS3.out.k3.cell (j := 0) rfl
    have q1 := HS3.out.k3.cell (j := 1) rfl
    have hk6 := HS3.out.k6
    go_wp2_with (refine wpl_storeB rfl _ _ _ rfl (w.heap.size + 1 + 1) [.int .u64 (ycid : Int), .slice A3 nl.length c3] rfl rfl _ _ hk6 rfl rfl rfl ?_; intro w4 hk4 hu4)
    obtain ⟨d1, d2⟩ := HS3.out.done hk4 hu4
    refine bodyPost_ret (res_cell_one Try.results84 _ (w.heap.size + 1 + 1) _ _ _ rfl hk4 Try.underlying38 rfl rfl) rfl ⟨⟨ycid, A3, nl, c3⟩, rfl, ?_, d1, d2⟩
    obtain ⟨hpc, hpl⟩ := card_p.1 HYP.out
    refine card_p.2 ⟨hpc, ?_⟩
    show nl.map LineM.p = (setR z true x.ls).map LineM.p
    rw [← HND.out]
    exact setR_p rfl true hpl
  | false =>
    have q1 := HS3.out.k3.cell (j := 1) rfl
    have q2 := HS3.out.k4.cell (j := 0) rfl
    have CB := kept (bsl_any A3 nl c3 z.f W3 HS3.out.fr.ok.2.1 HNF.out (by have := HNL.out; have := HLN.out; omega))
    go_wp2_with fail
    refine CB.out.mono ?_
    rintro e w4 ⟨⟨i, rfl, hpos⟩, hb4⟩
    have HS4 := kept (HS3.out.next hb4)
    have HPS := kept hpos
    clear hpos hb4 CB q1 q2 HS3
    have q3 := HS4.out.k4.cell (j := 2) rfl
    have CS := kept (sclone_any z.A z.m.length z.c z.m w4 rfl (strE_rd.2 (HZ.out.1.next HS4.out.below)) (by have := HZ.out.2.2.2; omega))
    go_wp2_with fail
    refine CS.out.mono ?_
    rintro e w5 ⟨A5, c5, rfl, hown5, hc5, hb5⟩
    have hk5 := HS4.out.k4.next hb5
    have q4 := hk5.cell (j := 2) rfl
    have q5 := hk5.frozen 2
    have HS5 := kept ((HS4.out.next hb5).more A5 c5)
    have hlo5 : w.heap.size + 3 ≤ w4.heap.size := HS4.out.size
    have HO5 : Kept (strE.Own (w5.setCell ⟨w.heap.size + 1, 2, none⟩ (.slice A5 z.m.length c5)) (w.heap.size + 3) 9 (.slice A5 z.m.length c5) z.m) := ⟨(OwnK.low hown5 (p := ⟨w.heap.size + 1, 2, none⟩) (by simp; omega) _).mono hlo5⟩
    clear hown5 hc5 hb5 hk5 CS HS4 q3 hlo5
    go_upto_region 7 with fail
    clear q4 q5
    generalize w5.setCell ⟨w.heap.size + 1, 2, none⟩ (.slice A5 z.m.length c5) = W5 at *
    have q1 := HS5.out.k3.cell (j := 1) rfl
    have q6 := HS5.out.k4.cell (j := 0) rfl
    have q7 := HS5.out.k4.cell (j := 1) rfl
    have q8 := HS5.out.k4.cell (j := 2) rfl
    have hbA : Below W5.heap.size W5 (W5.alloc (.cells #[.int .u8 (z.f : Int), .string z.t, .slice A5 z.m.length c5] 41)) := (Below.refl _ _).alloc (Nat.le_refl _) _
    have HS6 := kept (HS5.out.next hbA)
    have HO6 := kept (HO5.out.next hbA)
    have CI := kept (insl_any (w.heap.size + 3) A3 c3 i W5.heap.size nl ⟨z.f, z.t, A5, z.m, c5⟩ 41 (W5.alloc (.cells #[.int .u8 (z.f : Int), .string z.t, .slice A5 z.m.length c5] 41)) HS6.out.fr.2.1 (Blk.new W5 [.int .u8 (z.f : Int), .string z.t, .slice A5 z.m.length c5] _) (fun k hk => by have := (OwnK.under HS5.out.fr.2.1 k hk).2; omega) HPS.out.1 HS6.out.size (by have := HNL.out; have := HLN.out; omega))
    have HLI : Kept ((nl.take i ++ (⟨z.f, z.t, A5, z.m, c5⟩ : LineM) :: nl.drop i).length ≤ 2932031007402 ∧ ∀ u ∈ nl.take i ++ (⟨z.f, z.t, A5, z.m, c5⟩ : LineM) :: nl.drop i, u = ⟨z.f, z.t, A5, z.m, c5⟩ ∨ u ∈ nl) := ⟨by
      have h1 := HNL.out
      have h2 := HLN.out
      simp only [List.length_append, List.length_take, List.length_cons, List.length_drop]
      omega, fun u hu => by
      rcases List.mem_append.1 hu with h | h
      · exact .inr (List.mem_of_mem_take h)
      · rcases List.mem_cons.1 h with h | h
        · exact .inl h
        · exact .inr (List.mem_of_mem_drop h)⟩
    have HFP : Kept ((nl.take i ++ (⟨z.f, z.t, A5, z.m, c5⟩ : LineM) :: nl.drop i).map LineM.p = (setR z false x.ls).map LineM.p) := ⟨by
      rw [← HNS.out ⟨z.f, z.t, A5, z.m, c5⟩ i rfl HPS.out]
      exact setR_p (x := ⟨z.f, z.t, A5, z.m, c5⟩) (y := z) rfl false (card_p.1 HYP.out).2⟩
    clear hbA HNS HPS HNF HND HNL HO5 HS5
    go_wp2_with fail
    refine CI.out.mono ?_
    rintro e w6 ⟨A6, c6, rfl, ho6, hu6⟩
    clear CI q1 q6 q7 q8
    generalize nl.take i ++ (⟨z.f, z.t, A5, z.m, c5⟩ : LineM) :: nl.drop i = ml at *
    have HS7 := kept (HS6.out.row hu6 ho6 (fun u hu => by
      rcases HLI.out.2 u hu with rfl | h
      · exact ⟨HZ.out.2.1, HZ.out.2.2.2, HO6.out.upd hu6 fun k hk e => own_apart HO6.out HS6.out.fr.2.1 (by decide) k hk e⟩
      · exact HS6.out.strs hu6 h) HLI.out.1)
    have hk7 := HS6.out.k3.below (HS6.out.apart hu6) (by omega)
    have q2 := hk7.cell (j := 1) rfl
    have q3 := hk7.frozen 1
    clear hk7 ho6 hu6 HS6 HO6 HLI
    go_upto_region 8 with fail
    clear q2 q3
    generalize w6.setCell ⟨w.heap.size, 1, none⟩ (.slice A6 ml.length c6) = W7 at *
    have q0 := HS7.out.k3.cell (j := 0) rfl
    have q1 := HS7.out.k3.cell (j := 1) rfl
    have hk6 := HS7.out.k6
    go_wp2_with (refine wpl_storeB rfl _ _ _ rfl (w.heap.size + 1 + 1) [.int .u64 (ycid : Int), .slice A6 ml.length c6] rfl rfl _ _ hk6 rfl rfl rfl ?_; intro w8 hk8 hu8)
    obtain ⟨d1, d2⟩ := HS7.out.done hk8 hu8
    refine bodyPost_ret (res_cell_one Try.results84 _ (w.heap.size + 1 + 1) _ _ _ rfl hk8 Try.underlying38 rfl rfl) rfl ⟨⟨ycid, A6, ml, c6⟩, rfl, ?_, d1, d2⟩
    exact card_p.2 ⟨(card_p.1 HYP.out).1, HFP.out⟩
end Go.Proofs.Ytnmcclkpgbdenaa.Chg
