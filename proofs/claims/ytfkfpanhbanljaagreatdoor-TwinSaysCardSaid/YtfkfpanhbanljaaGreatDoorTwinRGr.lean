/- Layer 47 (twin): the document's Groups. (printed by tools/gentrg.py) -/
import Derived.Test.YtfkfpanhbanljaaGreatDoorTwinRPut
import Derived.Test.YtfkfpanhbanljaaGreatDoorSet40
import Derived.Test.YtfkfpanhbanljaaGreatDoorSet44
import Derived.Test.YtfkfpanhbanljaaGreatDoorSet28
import Derived.BigQuiet
import Derived.Deep.DeepCutAuto
namespace Go.Proofs.YtfkfpanhbanljaaGreatDoor.Twin
open Go.RowKit Go.Proofs.YtfkfpanhbanljaaGreatDoor.Mem Go.Proofs.YtfkfpanhbanljaaGreatDoor.Card Go.Proofs.YtfkfpanhbanljaaGreatDoor.SortW

/-- the row of marks -/
def MkSt (w W : World) (n : Nat) (mk : List Nat) : Prop := Below w.heap.size w W ∧ Own W w.heap.size 3 (.slice (some ⟨w.heap.size, 0, none⟩) n n) (UB mk)
def mkOf (n : Nat) (M : Nat → Nat) : List Nat := (List.range n).map M
theorem mkOf_get {n : Nat} {M : Nat → Nat} {i : Nat} (h : i < n) : (mkOf n M).getD i 0 = M i := by simp [mkOf, List.getD, h]
theorem mkOf_set {n : Nat} {M : Nat → Nat} {i v : Nat} : (mkOf n M).set i v = mkOf n fun x => if x = i then v else M x := by
  unfold mkOf
  refine List.ext_getElem? fun j => ?_
  rw [List.getElem?_set, List.length_map, List.length_range, List.getElem?_map, List.getElem?_map]
  by_cases e : i = j
  · subst e
    by_cases h : i < n
    · simp [h]
    · simp [h]
  · have e2 : ¬ j = i := fun h => e h.symm
    rw [if_neg e]
    by_cases h : j < n
    · simp [h, e2]
    · simp [h]
section
variable {w W W' : World} {n : Nat} {mk : List Nat}
theorem MkSt.next (h : MkSt w W n mk) (hb : Below W.heap.size W W') : MkSt w W' n mk := ⟨h.1.trans (hb.mono h.1.size), h.2.next hb⟩
theorem MkSt.len (h : MkSt w W n mk) : mk.length = n := by
  have := h.2.len
  unfold UB at this
  rw [List.length_map] at this
  exact this.symm
theorem MkSt.lt (h : MkSt w W n mk) (hn : 0 < n) : w.heap.size < W.heap.size := (h.2.lt w.heap.size rfl).2
theorem MkSt.spot (h : MkSt w W n mk) {i : Nat} (hi : i < n) : W.cell? ⟨w.heap.size, i, none⟩ = some (.int .i64 ((mk.getD i 0 : Nat) : Int)) ∧ W.frozen? ⟨w.heap.size, i, none⟩ = false ∧ ∀ v : Nat, MkSt w (W.setCell ⟨w.heap.size, i, none⟩ (.int .i64 (v : Int))) n (mk.set i v) := by
  have hl := h.len
  obtain ⟨g, h1, h2, -, h4, h5, h6⟩ := OwnK.spot h.2 (UB_get (up := mk) (i := i) (by omega))
  obtain rfl : w.heap.size = g := congrArg Addr.block (Option.some.inj h1)
  refine ⟨h4, h5, fun v => ⟨h.1.setCell (p := ⟨w.heap.size, i, none⟩) (Nat.le_refl _) _, ?_⟩⟩
  have h7 := (h6 (.int .i64 (v : Int))).1
  rw [UB_set] at h7
  unfold Own
  have e : (UB (mk.set i v)).length = (UB mk).length := by simp [UB]
  rw [e]
  exact h7
end
theorem norm_snoc (l : List Nat) (x : Nat) : normL (l ++ [x]) = putN (normL l) x := by unfold normL; rw [List.foldl_append]; rfl
/-- the groups of the first m heads -/
def gsUp (n : Nat) (cid R : Nat → Nat) (m : Nat) : List (List Nat) := ((List.range m).map (classL n cid R)).filter fun g => decide (2 ≤ g.length)
theorem gsUp_next (n : Nat) (cid R : Nat → Nat) (m : Nat) : gsUp n cid R (m + 1) = gsUp n cid R m ++ if 2 ≤ (classL n cid R m).length then [classL n cid R m] else [] := by
  unfold gsUp
  rw [List.range_succ, List.map_append, List.filter_append]
  by_cases h : 2 ≤ (classL n cid R m).length
  · simp [h]
  · simp [h]
theorem fold_len : ∀ (l acc : List (List Nat)), (l.foldl insG acc).length = acc.length + l.length
  | [], _ => rfl
  | g :: l, acc => by
    show (l.foldl insG (insG acc g)).length = _
    rw [fold_len l, (ins_perm acc g).length_eq, List.length_cons, List.length_cons]
    omega
theorem gsUp_len (n : Nat) (cid R : Nat → Nat) (m : Nat) : (gsUp n cid R m).length ≤ m := by
  unfold gsUp
  exact Nat.le_trans (List.length_filter_le _ _) (by simp)
theorem gsUp_ten {n : Nat} {cid R : Nat → Nat} {m : Nat} {gs : List GrpM} (h : gs.map GrpM.l = (gsUp n cid R m).foldl insG []) : ∀ g ∈ gs, g.l.length ≤ n := fun g hg => by
  have h1 : g.l ∈ (gsUp n cid R m).foldl insG [] := by rw [← h]; exact List.mem_map_of_mem hg
  have h2 := (foldG_perm (gsUp n cid R m) []).mem_iff.1 h1
  unfold gsUp at h2
  rw [List.nil_append] at h2
  obtain ⟨q, -, h3⟩ := List.mem_map.1 (List.mem_filter.1 h2).1
  rw [← h3, class_inG]
  exact Nat.le_trans (norm_len _) (inG_len _ _ _ _)
/-- where a group goes -/
theorem insG_split : ∀ (U V : List (List Nat)) (g : List Nat), (∀ u ∈ U, aheadL g u = false) → (∀ v, V.head? = some v → aheadL g v = true) → insG (U ++ V) g = U ++ g :: V
  | [], [], _, _, _ => rfl
  | [], v :: V, g, _, h => by
    show insG (v :: V) g = g :: v :: V
    unfold insG
    rw [if_pos (h v rfl)]
  | u :: U, V, g, hu, h => by
    show insG (u :: (U ++ V)) g = u :: (U ++ g :: V)
    unfold insG
    rw [hu u (List.mem_cons_self ..)]
    simp only [Bool.false_eq_true, if_false]
    rw [insG_split U V g (fun q hq => hu q (List.mem_cons_of_mem _ hq)) h]
/-- the groups that were put anew so far -/
def InsSt (outs : List GrpM) (g : GrpM) (i : Nat) (d : Bool) (nx : List GrpM) : Prop :=
  (d = false ∧ nx = outs.take i ∧ ∀ h ∈ outs.take i, aheadL g.l h.l = false) ∨
  (d = true ∧ ∃ U V, outs.take i = U ++ V ∧ nx = U ++ g :: V ∧ (∀ u ∈ U, aheadL g.l u.l = false) ∧ ∃ v, V.head? = some v ∧ aheadL g.l v.l = true)
section
variable {outs nx : List GrpM} {g h : GrpM} {i : Nat}
theorem take_snoc {α : Type} {l : List α} {k : Nat} {x : α} (hx : l[k]? = some x) : l.take (k + 1) = l.take k ++ [x] := by
  obtain ⟨h1, h2⟩ := List.getElem?_eq_some_iff.1 hx
  rw [List.take_succ_eq_append_getElem h1, h2]
theorem InsSt.start (outs : List GrpM) (g : GrpM) : InsSt outs g 0 false [] := .inl ⟨rfl, by simp, fun h hh => by simp at hh⟩
theorem InsSt.no (hs : InsSt outs g i false nx) (hh : outs[i]? = some h) (ha : aheadL g.l h.l = false) : InsSt outs g (i + 1) false (nx ++ [h]) := by
  rcases hs with ⟨-, h1, h2⟩ | ⟨h1, -⟩
  · refine .inl ⟨rfl, by rw [take_snoc hh, h1], fun q hq => ?_⟩
    rw [take_snoc hh] at hq
    rcases List.mem_append.1 hq with hq | hq
    · exact h2 q hq
    · rw [List.mem_singleton.1 hq]; exact ha
  · cases h1
theorem InsSt.yes (hs : InsSt outs g i false nx) (hh : outs[i]? = some h) (ha : aheadL g.l h.l = true) : InsSt outs g (i + 1) true (nx ++ [g] ++ [h]) := by
  rcases hs with ⟨-, h1, h2⟩ | ⟨h1, -⟩
  · exact .inr ⟨rfl, outs.take i, [h], take_snoc hh, by rw [h1]; simp, h2, h, rfl, ha⟩
  · cases h1
theorem InsSt.more (hs : InsSt outs g i true nx) (hh : outs[i]? = some h) : InsSt outs g (i + 1) true (nx ++ [h]) := by
  rcases hs with ⟨h1, -⟩ | ⟨-, U, V, h1, h2, h3, v, h4, h5⟩
  · cases h1
  · refine .inr ⟨rfl, U, V ++ [h], by rw [take_snoc hh, h1, List.append_assoc], by rw [h2]; simp, h3, v, ?_, h5⟩
    cases V with
    | nil => cases h4
    | cons q V => exact h4
theorem InsSt.end_yes (hs : InsSt outs g outs.length true nx) : nx.map GrpM.l = insG (outs.map GrpM.l) g.l := by
  rcases hs with ⟨h1, -⟩ | ⟨-, U, V, h1, h2, h3, v, h4, h5⟩
  · cases h1
  · rw [List.take_length] at h1
    rw [h1, h2, List.map_append, List.map_append, List.map_cons, insG_split (U.map GrpM.l) (V.map GrpM.l) g.l]
    · intro u hu
      obtain ⟨q, hq, rfl⟩ := List.mem_map.1 hu
      exact h3 q hq
    · intro q hq
      rw [List.head?_map, h4] at hq
      obtain rfl := Option.some.inj hq
      exact h5
theorem InsSt.end_no (hs : InsSt outs g outs.length false nx) : (nx ++ [g]).map GrpM.l = insG (outs.map GrpM.l) g.l := by
  rcases hs with ⟨-, h1, h2⟩ | ⟨h1, -⟩
  · rw [List.take_length] at h1 h2
    rw [h1, List.map_append]
    have := insG_split (outs.map GrpM.l) [] g.l (fun u hu => by
      obtain ⟨q, hq, rfl⟩ := List.mem_map.1 hu
      exact h2 q hq) (fun v hv => by cases hv)
    rw [List.append_nil] at this
    rw [this]
    rfl
  · cases h1
theorem InsSt.mem {d : Bool} (hs : InsSt outs g i d nx) : ∀ q ∈ nx, q = g ∨ q ∈ outs := by
  rcases hs with ⟨-, h1, -⟩ | ⟨-, U, V, h1, h2, -⟩
  · intro q hq
    rw [h1] at hq
    exact .inr (List.mem_of_mem_take hq)
  · intro q hq
    rw [h2] at hq
    have e : ∀ q, q ∈ U ++ V → q ∈ outs := fun q hq => by rw [← h1] at hq; exact List.mem_of_mem_take hq
    rcases List.mem_append.1 hq with hq | hq
    · exact .inr (e q (List.mem_append_left _ hq))
    · rcases List.mem_cons.1 hq with rfl | hq
      · exact .inl rfl
      · exact .inr (e q (List.mem_append_right _ hq))
theorem InsSt.len {d : Bool} (hs : InsSt outs g i d nx) : nx.length ≤ i + 1 := by
  rcases hs with ⟨-, h1, -⟩ | ⟨-, U, V, h1, h2, -⟩
  · rw [h1, List.length_take]; omega
  · have := congrArg List.length h1
    rw [List.length_take, List.length_append] at this
    rw [h2, List.length_append, List.length_cons]
    omega
end
set_option maxRecDepth 100000 in
set_option maxHeartbeats 8000000 in
theorem rgroups_any (A : Option Addr) (c : Nat) (l : List CardM) (w : World) (hl : RdCards w w.heap.size A l) (hs : ∀ x ∈ l, SmallK x) (hn : l.length ≤ 10) :
    Calls Tryz.prog 24 #[.slice A l.length c] w (GivesG w (sortG (groupsL l.length (cidAt l) (turns l.length (adjB l) l.length)))) := by
  obtain ⟨w1, hmk, ho1, hb1⟩ := make_up w l.length (by omega)
  have HL := kept hl
  have HS0 := kept hs
  have HU0 : Kept (MkSt w w1 l.length (List.range 0 ++ List.replicate (l.length - 0) 0)) := ⟨hb1, ho1⟩
  have HSG : Kept (sortG (groupsL l.length (cidAt l) (turns l.length (adjB l) l.length)) = (gsUp l.length (cidAt l) (turns l.length (adjB l) l.length) l.length).foldl insG []) := ⟨rfl⟩
  clear hl hs ho1 hb1
  go_enter Tryz.func24, Tryz.ntmps24
  go_wp2_with fail
  clear hmk
  go_loopw [4] (fun i wr => ∃ k : Nat, k ≤ l.length ∧ i = .int .i64 (k : Int) ∧ Kept (MkSt w wr l.length (List.range k ++ List.replicate (l.length - k) 0))) (fun i _ => l.length - (intOf i).toNat)
  case atStart => exact ⟨0, Nat.zero_le _, rfl, HU0⟩
  case round =>
    clear HU0
    obtain ⟨k, hk, rfl, HU⟩ := hrel
    by_cases hlt : k < l.length
    · have hkn : (k : Int) < (l.length : Int) := by omega
      obtain ⟨c0, f0, s0⟩ := HU.out.spot hlt
      have s1 := s0 k
      rw [range_put hlt] at s1
      have HU2 := kept s1
      clear s0 s1 HU
      go_wp2_with fail
      go_roundw
      case rel => exact ⟨k + 1, by omega, by go_num, HU2⟩
      case measure => simp [intOf]; omega
    · obtain rfl : k = l.length := by omega
      have hge : ¬ (l.length : Int) < (l.length : Int) := by omega
      have HU2 : Kept (MkSt w wr l.length (mkOf l.length (turns l.length (adjB l) 0))) := ⟨by
        have := HU.out
        have e : mkOf l.length (turns l.length (adjB l) 0) = List.range l.length := by unfold mkOf turns; simp
        rw [e]; simpa using this⟩
      clear HU
      obtain ⟨w2, hw2⟩ : ∃ w2 : World, w2 = wr := ⟨_, rfl⟩
      rw [← hw2] at HU2 ⊢
      clear hw2 wr
      go_wp2_with fail
      go_loopw [5] (fun i wr => ∃ t : Nat, t ≤ l.length ∧ i = .int .i64 (t : Int) ∧ Kept (MkSt w wr l.length (mkOf l.length (turns l.length (adjB l) t)))) (fun i _ => l.length - (intOf i).toNat)
      case atStart => exact ⟨0, Nat.zero_le _, rfl, HU2⟩
      case round =>
        clear HU2
        obtain ⟨t, ht, rfl, HU⟩ := hrel
        by_cases hlt : t < l.length
        · have htn : (t : Int) < (l.length : Int) := by omega
          have HT1 : Kept ((allPairs l.length l.length 0).foldl (markS (adjB l)) (turns l.length (adjB l) t) = turns l.length (adjB l) (t + 1)) := ⟨rfl⟩
          have HU2 : Kept (MkSt w wr l.length (mkOf l.length ((allPairs l.length 0 0).foldl (markS (adjB l)) (turns l.length (adjB l) t)))) := ⟨HU.out⟩
          clear HU
          generalize turns l.length (adjB l) t = T0 at *
          go_wp2_with fail
          go_loopw [6] (fun i wr => ∃ i' : Nat, i' ≤ l.length ∧ i = .int .i64 (i' : Int) ∧ Kept (MkSt w wr l.length (mkOf l.length ((allPairs l.length i' 0).foldl (markS (adjB l)) T0)))) (fun i _ => l.length - (intOf i).toNat)
          case atStart => exact ⟨0, Nat.zero_le _, rfl, HU2⟩
          case round =>
            clear HU2
            obtain ⟨i, hi, rfl, HU⟩ := hrel
            by_cases hli : i < l.length
            · have hin : (i : Int) < (l.length : Int) := by omega
              go_wp2_with fail
              go_loopw [7] (fun a wr => ∃ k : Nat, k ≤ l.length ∧ a = .int .i64 (k : Int) ∧ Kept (MkSt w wr l.length (mkOf l.length ((allPairs l.length i k).foldl (markS (adjB l)) T0)))) (fun a _ => l.length - (intOf a).toNat)
              case atStart => exact ⟨0, Nat.zero_le _, rfl, HU⟩
              case round =>
                clear HU
                obtain ⟨k, hk, rfl, HU⟩ := hrel
                by_cases hlk : k < l.length
                · have hkn : (k : Int) < (l.length : Int) := by omega
                  obtain ⟨x, hx⟩ : ∃ x, l[i]? = some x := ⟨_, List.getElem?_eq_getElem hli⟩
                  obtain ⟨y, hy⟩ : ∃ y, l[k]? = some y := ⟨_, List.getElem?_eq_getElem hlk⟩
                  obtain ⟨b, o, rfl, hbB, u0, u1, hxo⟩ := card_at HL.out hx
                  obtain ⟨b2, o2, e2, -, v0, v1, hyo⟩ := card_at HL.out hy
                  obtain ⟨rfl, rfl⟩ : b = b2 ∧ o = o2 := by injection e2 with h1; injection h1 with h2 h3 _; exact ⟨h2, h3⟩
                  have HNX : Kept ((allPairs l.length i (k + 1)).foldl (markS (adjB l)) T0 = markS (adjB l) ((allPairs l.length i k).foldl (markS (adjB l)) T0) (i, k)) := ⟨by rw [all_next, List.foldl_append]; rfl⟩
                  generalize (allPairs l.length i k).foldl (markS (adjB l)) T0 = M at *
                  have hbw := HU.out.1
                  have hkc := (HU.out.spot hlk).1
                  obtain ⟨hic, hif, his⟩ := HU.out.spot hli
                  rw [mkOf_get hlk] at hkc
                  rw [mkOf_get hli] at hic
                  have his2 := his (M k)
                  rw [mkOf_set] at his2
                  have HIS := kept his2
                  have HMY : Kept (M k < M i ∧ adjB l i k = true → markS (adjB l) M (i, k) = fun x => if x = i then M k else M x) := ⟨fun h => by unfold markS; rw [if_pos h]⟩
                  have HMN : Kept (¬ (M k < M i ∧ adjB l i k = true) → markS (adjB l) M (i, k) = M) := ⟨fun h => by unfold markS; rw [if_neg h]⟩
                  have hlt0 : w.heap.size < wr.heap.size := HU.out.lt (by omega)
                  have HKC := kept (And.intro hkc hic)
                  clear his his2 hif hkc hic
                  generalize hmk : M k = mk at *
                  generalize hmi : M i = mi at *
                  have HS : Kept (∀ W, Below wr.heap.size wr W → W.cell? ⟨b, o + i * 2, none⟩ = some (.int .u64 (x.cid : Int)) ∧ W.cell? ⟨b, o + i * 2 + 1, none⟩ = some (.slice x.X x.ls.length x.c) ∧ W.cell? ⟨b, o + k * 2, none⟩ = some (.int .u64 (y.cid : Int)) ∧ W.cell? ⟨b, o + k * 2 + 1, none⟩ = some (.slice y.X y.ls.length y.c) ∧ W.cell? ⟨w.heap.size, k, none⟩ = some (.int .i64 (mk : Int)) ∧ W.cell? ⟨w.heap.size, i, none⟩ = some (.int .i64 (mi : Int))) := ⟨fun W h => by
                    have hb := hbw.trans (h.mono hbw.size)
                    exact ⟨(hb.cell (p := ⟨b, o + i * 2, none⟩) hbB).trans u0, (hb.cell (p := ⟨b, o + i * 2 + 1, none⟩) hbB).trans u1, (hb.cell (p := ⟨b, o + k * 2, none⟩) hbB).trans v0, (hb.cell (p := ⟨b, o + k * 2 + 1, none⟩) hbB).trans v1, (h.cell (p := ⟨w.heap.size, k, none⟩) hlt0).trans HKC.out.1, (h.cell (p := ⟨w.heap.size, i, none⟩) hlt0).trans HKC.out.2⟩⟩
                  have CXY := kept (fun (W : World) (h : Below wr.heap.size wr W) => ralike_any x y W (hxo.next (hbw.trans (h.mono hbw.size))) (hyo.next (hbw.trans (h.mono hbw.size))) (HS0.out x (List.mem_of_getElem? hx)) (HS0.out y (List.mem_of_getElem? hy)))
                  have CYX := kept (fun (W : World) (h : Below wr.heap.size wr W) => ralike_any y x W (hyo.next (hbw.trans (h.mono hbw.size))) (hxo.next (hbw.trans (h.mono hbw.size))) (HS0.out y (List.mem_of_getElem? hy)) (HS0.out x (List.mem_of_getElem? hx)))
                  have hps := alike_symm same_symm y x
                  have HADJ : Kept (adjB l i k = (alikeB x y || alikeB y x)) := ⟨by unfold adjB; rw [getD_of hx, getD_of hy]⟩
                  rw [hps] at CYX HADJ
                  generalize alikeB x y = p at *
                  have HADJ : Kept (adjB l i k = p) := ⟨by rw [HADJ.out]; cases p <;> rfl⟩
                  rw [HADJ.out] at HMY HMN
                  obtain ⟨xcid, xX, xls, xc⟩ := x
                  obtain ⟨ycid, yX, yls, yc⟩ := y
                  unfold CardM.val at CXY CYX
                  dsimp only at HS CXY CYX
                  clear hps HADJ e2 u0 u1 v0 v1 hxo hyo hx hy hbw hmk hmi
                  go_upto_region 15 with fail
                  go_cut [76] (fun a wr' => a = .bool (decide (mk < mi) && p) ∧ Kept (Below wr.heap.size wr wr'))
                  case first =>
                    have hd0 : Below wr.heap.size wr wr := Below.refl _ _
                    clear HNX HMY HMN HIS HKC HU
                    by_cases hmm : mk < mi
                    · have hm1 : (mk : Int) < (mi : Int) := by omega
                      have HDK : Kept ((decide (mk < mi) && p) = p) := ⟨by rw [decide_eq_true hmm, Bool.true_and]⟩
                      cases p with
                      | true =>
                        refine wp_region_noPanic ?_
                        refine wp_region_held_drew (S := fun W => W.cell? ⟨b, o + i * 2, none⟩ = some (.int .u64 (xcid : Int)) ∧ W.cell? ⟨b, o + i * 2 + 1, none⟩ = some (.slice xX xls.length xc) ∧ W.cell? ⟨b, o + k * 2, none⟩ = some (.int .u64 (ycid : Int)) ∧ W.cell? ⟨b, o + k * 2 + 1, none⟩ = some (.slice yX yls.length yc) ∧ W.cell? ⟨w.heap.size, k, none⟩ = some (.int .i64 (mk : Int)) ∧ W.cell? ⟨w.heap.size, i, none⟩ = some (.int .i64 (mi : Int))) (by kernel_rfl) (HS.out _ (by (repeat (first | with_reducible assumption | with_reducible refine below_new ?_ _ | with_reducible refine Below.drew ?_ | with_reducible exact Below.refl _ _)))) (fun hS0 => ?_)
                        refine wpAnyH_take (i := 0) (v := ?_) rfl (by kernel_rfl) (by kernel_rfl) (by kernel_rfl) (fun _ _ _ h => h) (Or.inl ⟨by rfl, ?_⟩) hS0 ?_
                        case refine_2 => (intro W hSW; go_simp; try with_reducible rfl)
                        try simp only [Act.put, List.setIfInBounds_toArray, List.set_cons_zero, List.set_cons_succ, List.getElem_toArray, List.getElem_cons_zero, List.getElem_cons_succ]
                        refine wpAnyH_take (i := 1) (v := ?_) rfl (by kernel_rfl) (by kernel_rfl) (by kernel_rfl) (fun _ _ _ h => h) (Or.inl ⟨by rfl, ?_⟩) hS0 ?_
                        case refine_2 => (intro W hSW; go_simp; try with_reducible rfl)
                        try simp only [Act.put, List.setIfInBounds_toArray, List.set_cons_zero, List.set_cons_succ, List.getElem_toArray, List.getElem_cons_zero, List.getElem_cons_succ]
                        refine wpAnyH_take (i := 2) (v := ?_) rfl (by kernel_rfl) (by kernel_rfl) (by kernel_rfl) (fun _ _ _ h => h) (Or.inl ⟨by rfl, ?_⟩) hS0 ?_
                        case refine_2 => (intro W hSW; go_simp; try with_reducible rfl)
                        try simp only [Act.put, List.setIfInBounds_toArray, List.set_cons_zero, List.set_cons_succ, List.getElem_toArray, List.getElem_cons_zero, List.getElem_cons_succ]
                        refine wpAnyH_take (i := 3) (v := ?_) rfl (by kernel_rfl) (by kernel_rfl) (by kernel_rfl) (fun _ _ _ h => h) (Or.inl ⟨by rfl, ?_⟩) hS0 ?_
                        case refine_2 => (intro W hSW; obtain ⟨z0, z1, z2, z3, z4, z5⟩ := hSW; go_simp; try with_reducible rfl)
                        try simp only [Act.put, List.setIfInBounds_toArray, List.set_cons_zero, List.set_cons_succ, List.getElem_toArray, List.getElem_cons_zero, List.getElem_cons_succ]
                        refine wpAnyH_take (i := 4) (v := ?_) rfl (by kernel_rfl) (by kernel_rfl) (by kernel_rfl) (fun _ _ _ h => h) (Or.inl ⟨by rfl, ?_⟩) hS0 ?_
                        case refine_2 => (intro W hSW; go_simp; try with_reducible rfl)
                        try simp only [Act.put, List.setIfInBounds_toArray, List.set_cons_zero, List.set_cons_succ, List.getElem_toArray, List.getElem_cons_zero, List.getElem_cons_succ]
                        refine wpAnyH_take (i := 5) (v := ?_) rfl (by kernel_rfl) (by kernel_rfl) (by kernel_rfl) (fun _ _ _ h => h) (Or.inl ⟨by rfl, ?_⟩) hS0 ?_
                        case refine_2 => (intro W hSW; go_simp; try with_reducible rfl)
                        try simp only [Act.put, List.setIfInBounds_toArray, List.set_cons_zero, List.set_cons_succ, List.getElem_toArray, List.getElem_cons_zero, List.getElem_cons_succ]
                        refine wpAnyH_take (i := 6) (v := ?_) rfl (by kernel_rfl) (by kernel_rfl) (by kernel_rfl) (fun _ _ _ h => h) (Or.inl ⟨by rfl, ?_⟩) hS0 ?_
                        case refine_2 => (intro W hSW; go_simp; try with_reducible rfl)
                        try simp only [Act.put, List.setIfInBounds_toArray, List.set_cons_zero, List.set_cons_succ, List.getElem_toArray, List.getElem_cons_zero, List.getElem_cons_succ]
                        refine wpAnyH_take (i := 7) (v := ?_) rfl (by kernel_rfl) (by kernel_rfl) (by kernel_rfl) (fun _ _ _ h => h) (Or.inl ⟨by rfl, ?_⟩) hS0 ?_
                        case refine_2 => (intro W hSW; obtain ⟨z0, z1, z2, z3, z4, z5⟩ := hSW; go_simp; try with_reducible rfl)
                        try simp only [Act.put, List.setIfInBounds_toArray, List.set_cons_zero, List.set_cons_succ, List.getElem_toArray, List.getElem_cons_zero, List.getElem_cons_succ]
                        refine wpAnyH_take (i := 8) (v := ?_) rfl (by kernel_rfl) (by kernel_rfl) (by kernel_rfl) (fun _ _ _ h => h) (Or.inl ⟨by rfl, ?_⟩) hS0 ?_
                        case refine_2 => (intro W hSW; go_simp; try with_reducible rfl)
                        try simp only [Act.put, List.setIfInBounds_toArray, List.set_cons_zero, List.set_cons_succ, List.getElem_toArray, List.getElem_cons_zero, List.getElem_cons_succ]
                        refine wpAnyH_take (i := 9) (v := ?_) rfl (by kernel_rfl) (by kernel_rfl) (by kernel_rfl) (fun _ _ _ h => h) (Or.inl ⟨by rfl, ?_⟩) hS0 ?_
                        case refine_2 => (intro W hSW; go_simp; try with_reducible rfl)
                        try simp only [Act.put, List.setIfInBounds_toArray, List.set_cons_zero, List.set_cons_succ, List.getElem_toArray, List.getElem_cons_zero, List.getElem_cons_succ]
                        refine wpAnyH_take (i := 10) (v := ?_) rfl (by kernel_rfl) (by kernel_rfl) (by kernel_rfl) (fun _ _ _ h => h) (Or.inl ⟨by rfl, ?_⟩) hS0 ?_
                        case refine_2 => (intro W hSW; go_simp; try with_reducible rfl)
                        try simp only [Act.put, List.setIfInBounds_toArray, List.set_cons_zero, List.set_cons_succ, List.getElem_toArray, List.getElem_cons_zero, List.getElem_cons_succ]
                        refine wpAnyH_take (i := 11) (v := ?_) rfl (by kernel_rfl) (by kernel_rfl) (by kernel_rfl) (fun _ _ _ h => h) (Or.inl ⟨by rfl, ?_⟩) hS0 ?_
                        case refine_2 => (intro W hSW; go_simp; try with_reducible rfl)
                        try simp only [Act.put, List.setIfInBounds_toArray, List.set_cons_zero, List.set_cons_succ, List.getElem_toArray, List.getElem_cons_zero, List.getElem_cons_succ]
                        refine wpAnyH_take (i := 12) (v := ?_) rfl (by kernel_rfl) (by kernel_rfl) (by kernel_rfl) (fun _ _ _ h => h) (Or.inl ⟨by rfl, ?_⟩) hS0 ?_
                        case refine_2 => (intro W hSW; go_simp; try with_reducible rfl)
                        try simp only [Act.put, List.setIfInBounds_toArray, List.set_cons_zero, List.set_cons_succ, List.getElem_toArray, List.getElem_cons_zero, List.getElem_cons_succ]
                        refine wpAnyH_take (i := 13) (v := ?_) rfl (by kernel_rfl) (by kernel_rfl) (by kernel_rfl) (fun _ _ _ h => h) (Or.inl ⟨by rfl, ?_⟩) hS0 ?_
                        case refine_2 => (intro W hSW; obtain ⟨z0, z1, z2, z3, z4, z5⟩ := hSW; go_simp; try with_reducible rfl)
                        try simp only [Act.put, List.setIfInBounds_toArray, List.set_cons_zero, List.set_cons_succ, List.getElem_toArray, List.getElem_cons_zero, List.getElem_cons_succ]
                        refine wpAnyH_take (i := 14) (v := ?_) rfl (by kernel_rfl) (by kernel_rfl) (by kernel_rfl) (fun _ _ _ h => h) (Or.inl ⟨by rfl, ?_⟩) hS0 ?_
                        case refine_2 => (intro W hSW; go_simp; try with_reducible rfl)
                        try simp only [Act.put, List.setIfInBounds_toArray, List.set_cons_zero, List.set_cons_succ, List.getElem_toArray, List.getElem_cons_zero, List.getElem_cons_succ]
                        refine wpAnyH_take (i := 15) (v := ?_) rfl (by kernel_rfl) (by kernel_rfl) (by kernel_rfl) (fun _ _ _ h => h) (Or.inl ⟨by rfl, ?_⟩) hS0 ?_
                        case refine_2 => (intro W hSW; go_simp; try with_reducible rfl)
                        try simp only [Act.put, List.setIfInBounds_toArray, List.set_cons_zero, List.set_cons_succ, List.getElem_toArray, List.getElem_cons_zero, List.getElem_cons_succ]
                        refine wpAnyH_take (i := 16) (v := ?_) rfl (by kernel_rfl) (by kernel_rfl) (by kernel_rfl) (fun _ _ _ h => h) (Or.inl ⟨by rfl, ?_⟩) hS0 ?_
                        case refine_2 => (intro W hSW; go_simp; try with_reducible rfl)
                        try simp only [Act.put, List.setIfInBounds_toArray, List.set_cons_zero, List.set_cons_succ, List.getElem_toArray, List.getElem_cons_zero, List.getElem_cons_succ]
                        refine wpAnyH_take (i := 17) (v := ?_) rfl (by kernel_rfl) (by kernel_rfl) (by kernel_rfl) (fun _ _ _ h => h) (Or.inl ⟨by rfl, ?_⟩) hS0 ?_
                        case refine_2 => (intro W hSW; obtain ⟨z0, z1, z2, z3, z4, z5⟩ := hSW; go_simp; try with_reducible rfl)
                        try simp only [Act.put, List.setIfInBounds_toArray, List.set_cons_zero, List.set_cons_succ, List.getElem_toArray, List.getElem_cons_zero, List.getElem_cons_succ]
                        refine wpAnyH_ready (rs := [18]) (by kernel_rfl) (by simp) ?_
                        refine AllReadyH.cons rfl (fun K' hK => ?_) AllReadyH.nil
                        go_simp
                        go_at_call 21
                        refine (CXY.out _ (by (repeat (first | with_reducible assumption | with_reducible refine below_new ?_ _ | with_reducible refine Below.drew ?_ | with_reducible exact Below.refl _ _)))).mono ?_
                        rintro e x1 ⟨rfl, hx1⟩
                        have hk1 : Below wr.heap.size wr x1 := below_next (by (repeat (first | with_reducible assumption | with_reducible refine below_new ?_ _ | with_reducible refine Below.drew ?_ | with_reducible exact Below.refl _ _))) hx1
                        try simp only [Act.put, List.setIfInBounds_toArray, List.set_cons_zero, List.set_cons_succ, List.getElem_toArray, List.getElem_cons_zero, List.getElem_cons_succ]
                        refine hK.out _ _ (HS.out x1 hk1) (fun hS0 => ?_)
                        refine wpAnyH_take (i := 19) (v := ?_) rfl (by kernel_rfl) (by kernel_rfl) (by kernel_rfl) (fun _ _ _ h => h) (Or.inl ⟨by rfl, ?_⟩) hS0 ?_
                        case refine_2 => (intro W hSW; go_simp; try with_reducible rfl)
                        try simp only [Act.put, List.setIfInBounds_toArray, List.set_cons_zero, List.set_cons_succ, List.getElem_toArray, List.getElem_cons_zero, List.getElem_cons_succ]
                        refine wpAnyH_take (i := 20) (v := undef) rfl (by kernel_rfl) (by kernel_rfl) (by kernel_rfl) (fun _ _ _ h => h) (Or.inr ⟨by rfl, rfl⟩) hS0 ?_
                        try simp only [Act.put, List.setIfInBounds_toArray, List.set_cons_zero, List.set_cons_succ, List.getElem_toArray, List.getElem_cons_zero, List.getElem_cons_succ]
                        refine wpAnyH_take (i := 21) (v := undef) rfl (by kernel_rfl) (by kernel_rfl) (by kernel_rfl) (fun _ _ _ h => h) (Or.inr ⟨by rfl, rfl⟩) hS0 ?_
                        try simp only [Act.put, List.setIfInBounds_toArray, List.set_cons_zero, List.set_cons_succ, List.getElem_toArray, List.getElem_cons_zero, List.getElem_cons_succ]
                        refine wpAnyH_take (i := 22) (v := undef) rfl (by kernel_rfl) (by kernel_rfl) (by kernel_rfl) (fun _ _ _ h => h) (Or.inr ⟨by rfl, rfl⟩) hS0 ?_
                        try simp only [Act.put, List.setIfInBounds_toArray, List.set_cons_zero, List.set_cons_succ, List.getElem_toArray, List.getElem_cons_zero, List.getElem_cons_succ]
                        refine wpAnyH_take (i := 23) (v := undef) rfl (by kernel_rfl) (by kernel_rfl) (by kernel_rfl) (fun _ _ _ h => h) (Or.inr ⟨by rfl, rfl⟩) hS0 ?_
                        try simp only [Act.put, List.setIfInBounds_toArray, List.set_cons_zero, List.set_cons_succ, List.getElem_toArray, List.getElem_cons_zero, List.getElem_cons_succ]
                        refine wpAnyH_take (i := 24) (v := undef) rfl (by kernel_rfl) (by kernel_rfl) (by kernel_rfl) (fun _ _ _ h => h) (Or.inr ⟨by rfl, rfl⟩) hS0 ?_
                        try simp only [Act.put, List.setIfInBounds_toArray, List.set_cons_zero, List.set_cons_succ, List.getElem_toArray, List.getElem_cons_zero, List.getElem_cons_succ]
                        refine wpAnyH_take (i := 25) (v := undef) rfl (by kernel_rfl) (by kernel_rfl) (by kernel_rfl) (fun _ _ _ h => h) (Or.inr ⟨by rfl, rfl⟩) hS0 ?_
                        try simp only [Act.put, List.setIfInBounds_toArray, List.set_cons_zero, List.set_cons_succ, List.getElem_toArray, List.getElem_cons_zero, List.getElem_cons_succ]
                        refine wpAnyH_take (i := 26) (v := undef) rfl (by kernel_rfl) (by kernel_rfl) (by kernel_rfl) (fun _ _ _ h => h) (Or.inr ⟨by rfl, rfl⟩) hS0 ?_
                        try simp only [Act.put, List.setIfInBounds_toArray, List.set_cons_zero, List.set_cons_succ, List.getElem_toArray, List.getElem_cons_zero, List.getElem_cons_succ]
                        refine wpAnyH_take (i := 27) (v := undef) rfl (by kernel_rfl) (by kernel_rfl) (by kernel_rfl) (fun _ _ _ h => h) (Or.inr ⟨by rfl, rfl⟩) hS0 ?_
                        try simp only [Act.put, List.setIfInBounds_toArray, List.set_cons_zero, List.set_cons_succ, List.getElem_toArray, List.getElem_cons_zero, List.getElem_cons_succ]
                        refine wpAnyH_take (i := 28) (v := undef) rfl (by kernel_rfl) (by kernel_rfl) (by kernel_rfl) (fun _ _ _ h => h) (Or.inr ⟨by rfl, rfl⟩) hS0 ?_
                        try simp only [Act.put, List.setIfInBounds_toArray, List.set_cons_zero, List.set_cons_succ, List.getElem_toArray, List.getElem_cons_zero, List.getElem_cons_succ]
                        refine wpAnyH_take (i := 29) (v := ?_) rfl (by kernel_rfl) (by kernel_rfl) (by kernel_rfl) (fun _ _ _ h => h) (Or.inl ⟨by rfl, ?_⟩) hS0 ?_
                        case refine_2 => (intro W hSW; go_simp; try with_reducible rfl)
                        try simp only [Act.put, List.setIfInBounds_toArray, List.set_cons_zero, List.set_cons_succ, List.getElem_toArray, List.getElem_cons_zero, List.getElem_cons_succ]
                        refine wpAnyH_take (i := 30) (v := ?_) rfl (by kernel_rfl) (by kernel_rfl) (by kernel_rfl) (fun _ _ _ h => h) (Or.inl ⟨by rfl, ?_⟩) hS0 ?_
                        case refine_2 => (intro W hSW; go_simp; try with_reducible rfl)
                        try simp only [Act.put, List.setIfInBounds_toArray, List.set_cons_zero, List.set_cons_succ, List.getElem_toArray, List.getElem_cons_zero, List.getElem_cons_succ]
                        refine wpAnyH_done (by kernel_rfl) (NoPanic.normal ?_) _
                        go_wp2_with fail
                        go_meet
                        exact ⟨by first | rfl | (rw [HDK.out]) | simp, ⟨(by (repeat (first | with_reducible assumption | with_reducible refine below_new ?_ _ | with_reducible refine Below.drew ?_ | with_reducible exact Below.refl _ _)))⟩⟩
                      | false =>
                        refine wp_region_noPanic ?_
                        refine wp_region_held_drew (S := fun W => W.cell? ⟨b, o + i * 2, none⟩ = some (.int .u64 (xcid : Int)) ∧ W.cell? ⟨b, o + i * 2 + 1, none⟩ = some (.slice xX xls.length xc) ∧ W.cell? ⟨b, o + k * 2, none⟩ = some (.int .u64 (ycid : Int)) ∧ W.cell? ⟨b, o + k * 2 + 1, none⟩ = some (.slice yX yls.length yc) ∧ W.cell? ⟨w.heap.size, k, none⟩ = some (.int .i64 (mk : Int)) ∧ W.cell? ⟨w.heap.size, i, none⟩ = some (.int .i64 (mi : Int))) (by kernel_rfl) (HS.out _ (by (repeat (first | with_reducible assumption | with_reducible refine below_new ?_ _ | with_reducible refine Below.drew ?_ | with_reducible exact Below.refl _ _)))) (fun hS0 => ?_)
                        refine wpAnyH_take (i := 0) (v := ?_) rfl (by kernel_rfl) (by kernel_rfl) (by kernel_rfl) (fun _ _ _ h => h) (Or.inl ⟨by rfl, ?_⟩) hS0 ?_
                        case refine_2 => (intro W hSW; go_simp; try with_reducible rfl)
                        try simp only [Act.put, List.setIfInBounds_toArray, List.set_cons_zero, List.set_cons_succ, List.getElem_toArray, List.getElem_cons_zero, List.getElem_cons_succ]
                        refine wpAnyH_take (i := 1) (v := ?_) rfl (by kernel_rfl) (by kernel_rfl) (by kernel_rfl) (fun _ _ _ h => h) (Or.inl ⟨by rfl, ?_⟩) hS0 ?_
                        case refine_2 => (intro W hSW; go_simp; try with_reducible rfl)
                        try simp only [Act.put, List.setIfInBounds_toArray, List.set_cons_zero, List.set_cons_succ, List.getElem_toArray, List.getElem_cons_zero, List.getElem_cons_succ]
                        refine wpAnyH_take (i := 2) (v := ?_) rfl (by kernel_rfl) (by kernel_rfl) (by kernel_rfl) (fun _ _ _ h => h) (Or.inl ⟨by rfl, ?_⟩) hS0 ?_
                        case refine_2 => (intro W hSW; go_simp; try with_reducible rfl)
                        try simp only [Act.put, List.setIfInBounds_toArray, List.set_cons_zero, List.set_cons_succ, List.getElem_toArray, List.getElem_cons_zero, List.getElem_cons_succ]
                        refine wpAnyH_take (i := 3) (v := ?_) rfl (by kernel_rfl) (by kernel_rfl) (by kernel_rfl) (fun _ _ _ h => h) (Or.inl ⟨by rfl, ?_⟩) hS0 ?_
                        case refine_2 => (intro W hSW; obtain ⟨z0, z1, z2, z3, z4, z5⟩ := hSW; go_simp; try with_reducible rfl)
                        try simp only [Act.put, List.setIfInBounds_toArray, List.set_cons_zero, List.set_cons_succ, List.getElem_toArray, List.getElem_cons_zero, List.getElem_cons_succ]
                        refine wpAnyH_take (i := 4) (v := ?_) rfl (by kernel_rfl) (by kernel_rfl) (by kernel_rfl) (fun _ _ _ h => h) (Or.inl ⟨by rfl, ?_⟩) hS0 ?_
                        case refine_2 => (intro W hSW; go_simp; try with_reducible rfl)
                        try simp only [Act.put, List.setIfInBounds_toArray, List.set_cons_zero, List.set_cons_succ, List.getElem_toArray, List.getElem_cons_zero, List.getElem_cons_succ]
                        refine wpAnyH_take (i := 5) (v := ?_) rfl (by kernel_rfl) (by kernel_rfl) (by kernel_rfl) (fun _ _ _ h => h) (Or.inl ⟨by rfl, ?_⟩) hS0 ?_
                        case refine_2 => (intro W hSW; go_simp; try with_reducible rfl)
                        try simp only [Act.put, List.setIfInBounds_toArray, List.set_cons_zero, List.set_cons_succ, List.getElem_toArray, List.getElem_cons_zero, List.getElem_cons_succ]
                        refine wpAnyH_take (i := 6) (v := ?_) rfl (by kernel_rfl) (by kernel_rfl) (by kernel_rfl) (fun _ _ _ h => h) (Or.inl ⟨by rfl, ?_⟩) hS0 ?_
                        case refine_2 => (intro W hSW; go_simp; try with_reducible rfl)
                        try simp only [Act.put, List.setIfInBounds_toArray, List.set_cons_zero, List.set_cons_succ, List.getElem_toArray, List.getElem_cons_zero, List.getElem_cons_succ]
                        refine wpAnyH_take (i := 7) (v := ?_) rfl (by kernel_rfl) (by kernel_rfl) (by kernel_rfl) (fun _ _ _ h => h) (Or.inl ⟨by rfl, ?_⟩) hS0 ?_
                        case refine_2 => (intro W hSW; obtain ⟨z0, z1, z2, z3, z4, z5⟩ := hSW; go_simp; try with_reducible rfl)
                        try simp only [Act.put, List.setIfInBounds_toArray, List.set_cons_zero, List.set_cons_succ, List.getElem_toArray, List.getElem_cons_zero, List.getElem_cons_succ]
                        refine wpAnyH_take (i := 8) (v := ?_) rfl (by kernel_rfl) (by kernel_rfl) (by kernel_rfl) (fun _ _ _ h => h) (Or.inl ⟨by rfl, ?_⟩) hS0 ?_
                        case refine_2 => (intro W hSW; go_simp; try with_reducible rfl)
                        try simp only [Act.put, List.setIfInBounds_toArray, List.set_cons_zero, List.set_cons_succ, List.getElem_toArray, List.getElem_cons_zero, List.getElem_cons_succ]
                        refine wpAnyH_take (i := 9) (v := ?_) rfl (by kernel_rfl) (by kernel_rfl) (by kernel_rfl) (fun _ _ _ h => h) (Or.inl ⟨by rfl, ?_⟩) hS0 ?_
                        case refine_2 => (intro W hSW; go_simp; try with_reducible rfl)
                        try simp only [Act.put, List.setIfInBounds_toArray, List.set_cons_zero, List.set_cons_succ, List.getElem_toArray, List.getElem_cons_zero, List.getElem_cons_succ]
                        refine wpAnyH_take (i := 10) (v := ?_) rfl (by kernel_rfl) (by kernel_rfl) (by kernel_rfl) (fun _ _ _ h => h) (Or.inl ⟨by rfl, ?_⟩) hS0 ?_
                        case refine_2 => (intro W hSW; go_simp; try with_reducible rfl)
                        try simp only [Act.put, List.setIfInBounds_toArray, List.set_cons_zero, List.set_cons_succ, List.getElem_toArray, List.getElem_cons_zero, List.getElem_cons_succ]
                        refine wpAnyH_take (i := 11) (v := ?_) rfl (by kernel_rfl) (by kernel_rfl) (by kernel_rfl) (fun _ _ _ h => h) (Or.inl ⟨by rfl, ?_⟩) hS0 ?_
                        case refine_2 => (intro W hSW; go_simp; try with_reducible rfl)
                        try simp only [Act.put, List.setIfInBounds_toArray, List.set_cons_zero, List.set_cons_succ, List.getElem_toArray, List.getElem_cons_zero, List.getElem_cons_succ]
                        refine wpAnyH_take (i := 12) (v := ?_) rfl (by kernel_rfl) (by kernel_rfl) (by kernel_rfl) (fun _ _ _ h => h) (Or.inl ⟨by rfl, ?_⟩) hS0 ?_
                        case refine_2 => (intro W hSW; go_simp; try with_reducible rfl)
                        try simp only [Act.put, List.setIfInBounds_toArray, List.set_cons_zero, List.set_cons_succ, List.getElem_toArray, List.getElem_cons_zero, List.getElem_cons_succ]
                        refine wpAnyH_take (i := 13) (v := ?_) rfl (by kernel_rfl) (by kernel_rfl) (by kernel_rfl) (fun _ _ _ h => h) (Or.inl ⟨by rfl, ?_⟩) hS0 ?_
                        case refine_2 => (intro W hSW; obtain ⟨z0, z1, z2, z3, z4, z5⟩ := hSW; go_simp; try with_reducible rfl)
                        try simp only [Act.put, List.setIfInBounds_toArray, List.set_cons_zero, List.set_cons_succ, List.getElem_toArray, List.getElem_cons_zero, List.getElem_cons_succ]
                        refine wpAnyH_take (i := 14) (v := ?_) rfl (by kernel_rfl) (by kernel_rfl) (by kernel_rfl) (fun _ _ _ h => h) (Or.inl ⟨by rfl, ?_⟩) hS0 ?_
                        case refine_2 => (intro W hSW; go_simp; try with_reducible rfl)
                        try simp only [Act.put, List.setIfInBounds_toArray, List.set_cons_zero, List.set_cons_succ, List.getElem_toArray, List.getElem_cons_zero, List.getElem_cons_succ]
                        refine wpAnyH_take (i := 15) (v := ?_) rfl (by kernel_rfl) (by kernel_rfl) (by kernel_rfl) (fun _ _ _ h => h) (Or.inl ⟨by rfl, ?_⟩) hS0 ?_
                        case refine_2 => (intro W hSW; go_simp; try with_reducible rfl)
                        try simp only [Act.put, List.setIfInBounds_toArray, List.set_cons_zero, List.set_cons_succ, List.getElem_toArray, List.getElem_cons_zero, List.getElem_cons_succ]
                        refine wpAnyH_take (i := 16) (v := ?_) rfl (by kernel_rfl) (by kernel_rfl) (by kernel_rfl) (fun _ _ _ h => h) (Or.inl ⟨by rfl, ?_⟩) hS0 ?_
                        case refine_2 => (intro W hSW; go_simp; try with_reducible rfl)
                        try simp only [Act.put, List.setIfInBounds_toArray, List.set_cons_zero, List.set_cons_succ, List.getElem_toArray, List.getElem_cons_zero, List.getElem_cons_succ]
                        refine wpAnyH_take (i := 17) (v := ?_) rfl (by kernel_rfl) (by kernel_rfl) (by kernel_rfl) (fun _ _ _ h => h) (Or.inl ⟨by rfl, ?_⟩) hS0 ?_
                        case refine_2 => (intro W hSW; obtain ⟨z0, z1, z2, z3, z4, z5⟩ := hSW; go_simp; try with_reducible rfl)
                        try simp only [Act.put, List.setIfInBounds_toArray, List.set_cons_zero, List.set_cons_succ, List.getElem_toArray, List.getElem_cons_zero, List.getElem_cons_succ]
                        refine wpAnyH_ready (rs := [18]) (by kernel_rfl) (by simp) ?_
                        refine AllReadyH.cons rfl (fun K' hK => ?_) AllReadyH.nil
                        go_simp
                        go_at_call 21
                        refine (CXY.out _ (by (repeat (first | with_reducible assumption | with_reducible refine below_new ?_ _ | with_reducible refine Below.drew ?_ | with_reducible exact Below.refl _ _)))).mono ?_
                        rintro e x1 ⟨rfl, hx1⟩
                        have hk1 : Below wr.heap.size wr x1 := below_next (by (repeat (first | with_reducible assumption | with_reducible refine below_new ?_ _ | with_reducible refine Below.drew ?_ | with_reducible exact Below.refl _ _))) hx1
                        try simp only [Act.put, List.setIfInBounds_toArray, List.set_cons_zero, List.set_cons_succ, List.getElem_toArray, List.getElem_cons_zero, List.getElem_cons_succ]
                        refine hK.out _ _ (HS.out x1 hk1) (fun hS0 => ?_)
                        refine wpAnyH_take (i := 19) (v := ?_) rfl (by kernel_rfl) (by kernel_rfl) (by kernel_rfl) (fun _ _ _ h => h) (Or.inl ⟨by rfl, ?_⟩) hS0 ?_
                        case refine_2 => (intro W hSW; go_simp; try with_reducible rfl)
                        try simp only [Act.put, List.setIfInBounds_toArray, List.set_cons_zero, List.set_cons_succ, List.getElem_toArray, List.getElem_cons_zero, List.getElem_cons_succ]
                        refine wpAnyH_take (i := 20) (v := ?_) rfl (by kernel_rfl) (by kernel_rfl) (by kernel_rfl) (fun _ _ _ h => h) (Or.inl ⟨by rfl, ?_⟩) hS0 ?_
                        case refine_2 => (intro W hSW; go_simp; try with_reducible rfl)
                        try simp only [Act.put, List.setIfInBounds_toArray, List.set_cons_zero, List.set_cons_succ, List.getElem_toArray, List.getElem_cons_zero, List.getElem_cons_succ]
                        refine wpAnyH_take (i := 21) (v := ?_) rfl (by kernel_rfl) (by kernel_rfl) (by kernel_rfl) (fun _ _ _ h => h) (Or.inl ⟨by rfl, ?_⟩) hS0 ?_
                        case refine_2 => (intro W hSW; go_simp; try with_reducible rfl)
                        try simp only [Act.put, List.setIfInBounds_toArray, List.set_cons_zero, List.set_cons_succ, List.getElem_toArray, List.getElem_cons_zero, List.getElem_cons_succ]
                        refine wpAnyH_take (i := 22) (v := ?_) rfl (by kernel_rfl) (by kernel_rfl) (by kernel_rfl) (fun _ _ _ h => h) (Or.inl ⟨by rfl, ?_⟩) hS0 ?_
                        case refine_2 => (intro W hSW; go_simp; try with_reducible rfl)
                        try simp only [Act.put, List.setIfInBounds_toArray, List.set_cons_zero, List.set_cons_succ, List.getElem_toArray, List.getElem_cons_zero, List.getElem_cons_succ]
                        refine wpAnyH_take (i := 23) (v := ?_) rfl (by kernel_rfl) (by kernel_rfl) (by kernel_rfl) (fun _ _ _ h => h) (Or.inl ⟨by rfl, ?_⟩) hS0 ?_
                        case refine_2 => (intro W hSW; obtain ⟨z0, z1, z2, z3, z4, z5⟩ := hSW; go_simp; try with_reducible rfl)
                        try simp only [Act.put, List.setIfInBounds_toArray, List.set_cons_zero, List.set_cons_succ, List.getElem_toArray, List.getElem_cons_zero, List.getElem_cons_succ]
                        refine wpAnyH_take (i := 24) (v := ?_) rfl (by kernel_rfl) (by kernel_rfl) (by kernel_rfl) (fun _ _ _ h => h) (Or.inl ⟨by rfl, ?_⟩) hS0 ?_
                        case refine_2 => (intro W hSW; go_simp; try with_reducible rfl)
                        try simp only [Act.put, List.setIfInBounds_toArray, List.set_cons_zero, List.set_cons_succ, List.getElem_toArray, List.getElem_cons_zero, List.getElem_cons_succ]
                        refine wpAnyH_take (i := 25) (v := ?_) rfl (by kernel_rfl) (by kernel_rfl) (by kernel_rfl) (fun _ _ _ h => h) (Or.inl ⟨by rfl, ?_⟩) hS0 ?_
                        case refine_2 => (intro W hSW; go_simp; try with_reducible rfl)
                        try simp only [Act.put, List.setIfInBounds_toArray, List.set_cons_zero, List.set_cons_succ, List.getElem_toArray, List.getElem_cons_zero, List.getElem_cons_succ]
                        refine wpAnyH_take (i := 26) (v := ?_) rfl (by kernel_rfl) (by kernel_rfl) (by kernel_rfl) (fun _ _ _ h => h) (Or.inl ⟨by rfl, ?_⟩) hS0 ?_
                        case refine_2 => (intro W hSW; go_simp; try with_reducible rfl)
                        try simp only [Act.put, List.setIfInBounds_toArray, List.set_cons_zero, List.set_cons_succ, List.getElem_toArray, List.getElem_cons_zero, List.getElem_cons_succ]
                        refine wpAnyH_take (i := 27) (v := ?_) rfl (by kernel_rfl) (by kernel_rfl) (by kernel_rfl) (fun _ _ _ h => h) (Or.inl ⟨by rfl, ?_⟩) hS0 ?_
                        case refine_2 => (intro W hSW; obtain ⟨z0, z1, z2, z3, z4, z5⟩ := hSW; go_simp; try with_reducible rfl)
                        try simp only [Act.put, List.setIfInBounds_toArray, List.set_cons_zero, List.set_cons_succ, List.getElem_toArray, List.getElem_cons_zero, List.getElem_cons_succ]
                        refine wpAnyH_ready (rs := [28]) (by kernel_rfl) (by simp) ?_
                        refine AllReadyH.cons rfl (fun K' hK => ?_) AllReadyH.nil
                        go_simp
                        go_at_call 21
                        refine (CYX.out _ (by (repeat (first | with_reducible assumption | with_reducible refine below_new ?_ _ | with_reducible refine Below.drew ?_ | with_reducible exact Below.refl _ _)))).mono ?_
                        rintro e x2 ⟨rfl, hx2⟩
                        have hk2 : Below wr.heap.size wr x2 := below_next (by (repeat (first | with_reducible assumption | with_reducible refine below_new ?_ _ | with_reducible refine Below.drew ?_ | with_reducible exact Below.refl _ _))) hx2
                        try simp only [Act.put, List.setIfInBounds_toArray, List.set_cons_zero, List.set_cons_succ, List.getElem_toArray, List.getElem_cons_zero, List.getElem_cons_succ]
                        refine hK.out _ _ (HS.out x2 hk2) (fun hS0 => ?_)
                        refine wpAnyH_take (i := 29) (v := ?_) rfl (by kernel_rfl) (by kernel_rfl) (by kernel_rfl) (fun _ _ _ h => h) (Or.inl ⟨by rfl, ?_⟩) hS0 ?_
                        case refine_2 => (intro W hSW; go_simp; try with_reducible rfl)
                        try simp only [Act.put, List.setIfInBounds_toArray, List.set_cons_zero, List.set_cons_succ, List.getElem_toArray, List.getElem_cons_zero, List.getElem_cons_succ]
                        refine wpAnyH_take (i := 30) (v := ?_) rfl (by kernel_rfl) (by kernel_rfl) (by kernel_rfl) (fun _ _ _ h => h) (Or.inl ⟨by rfl, ?_⟩) hS0 ?_
                        case refine_2 => (intro W hSW; go_simp; try with_reducible rfl)
                        try simp only [Act.put, List.setIfInBounds_toArray, List.set_cons_zero, List.set_cons_succ, List.getElem_toArray, List.getElem_cons_zero, List.getElem_cons_succ]
                        refine wpAnyH_done (by kernel_rfl) (NoPanic.normal ?_) _
                        go_wp2_with fail
                        go_meet
                        exact ⟨by first | rfl | (rw [HDK.out]) | simp, ⟨(by (repeat (first | with_reducible assumption | with_reducible refine below_new ?_ _ | with_reducible refine Below.drew ?_ | with_reducible exact Below.refl _ _)))⟩⟩
                    · have hm1 : ¬ (mk : Int) < (mi : Int) := by omega
                      have HDK : Kept ((decide (mk < mi) && p) = false) := ⟨by rw [decide_eq_false hmm, Bool.false_and]⟩
                      refine wp_region_noPanic ?_
                      refine wp_region_held_drew (S := fun W => W.cell? ⟨b, o + i * 2, none⟩ = some (.int .u64 (xcid : Int)) ∧ W.cell? ⟨b, o + i * 2 + 1, none⟩ = some (.slice xX xls.length xc) ∧ W.cell? ⟨b, o + k * 2, none⟩ = some (.int .u64 (ycid : Int)) ∧ W.cell? ⟨b, o + k * 2 + 1, none⟩ = some (.slice yX yls.length yc) ∧ W.cell? ⟨w.heap.size, k, none⟩ = some (.int .i64 (mk : Int)) ∧ W.cell? ⟨w.heap.size, i, none⟩ = some (.int .i64 (mi : Int))) (by kernel_rfl) (HS.out _ (by (repeat (first | with_reducible assumption | with_reducible refine below_new ?_ _ | with_reducible refine Below.drew ?_ | with_reducible exact Below.refl _ _)))) (fun hS0 => ?_)
                      refine wpAnyH_take (i := 0) (v := ?_) rfl (by kernel_rfl) (by kernel_rfl) (by kernel_rfl) (fun _ _ _ h => h) (Or.inl ⟨by rfl, ?_⟩) hS0 ?_
                      case refine_2 => (intro W hSW; go_simp; try with_reducible rfl)
                      try simp only [Act.put, List.setIfInBounds_toArray, List.set_cons_zero, List.set_cons_succ, List.getElem_toArray, List.getElem_cons_zero, List.getElem_cons_succ]
                      refine wpAnyH_take (i := 1) (v := ?_) rfl (by kernel_rfl) (by kernel_rfl) (by kernel_rfl) (fun _ _ _ h => h) (Or.inl ⟨by rfl, ?_⟩) hS0 ?_
                      case refine_2 => (intro W hSW; go_simp; try with_reducible rfl)
                      try simp only [Act.put, List.setIfInBounds_toArray, List.set_cons_zero, List.set_cons_succ, List.getElem_toArray, List.getElem_cons_zero, List.getElem_cons_succ]
                      refine wpAnyH_take (i := 2) (v := ?_) rfl (by kernel_rfl) (by kernel_rfl) (by kernel_rfl) (fun _ _ _ h => h) (Or.inl ⟨by rfl, ?_⟩) hS0 ?_
                      case refine_2 => (intro W hSW; go_simp; try with_reducible rfl)
                      try simp only [Act.put, List.setIfInBounds_toArray, List.set_cons_zero, List.set_cons_succ, List.getElem_toArray, List.getElem_cons_zero, List.getElem_cons_succ]
                      refine wpAnyH_take (i := 3) (v := ?_) rfl (by kernel_rfl) (by kernel_rfl) (by kernel_rfl) (fun _ _ _ h => h) (Or.inl ⟨by rfl, ?_⟩) hS0 ?_
                      case refine_2 => (intro W hSW; obtain ⟨z0, z1, z2, z3, z4, z5⟩ := hSW; go_simp; try with_reducible rfl)
                      try simp only [Act.put, List.setIfInBounds_toArray, List.set_cons_zero, List.set_cons_succ, List.getElem_toArray, List.getElem_cons_zero, List.getElem_cons_succ]
                      refine wpAnyH_take (i := 4) (v := ?_) rfl (by kernel_rfl) (by kernel_rfl) (by kernel_rfl) (fun _ _ _ h => h) (Or.inl ⟨by rfl, ?_⟩) hS0 ?_
                      case refine_2 => (intro W hSW; go_simp; try with_reducible rfl)
                      try simp only [Act.put, List.setIfInBounds_toArray, List.set_cons_zero, List.set_cons_succ, List.getElem_toArray, List.getElem_cons_zero, List.getElem_cons_succ]
                      refine wpAnyH_take (i := 5) (v := ?_) rfl (by kernel_rfl) (by kernel_rfl) (by kernel_rfl) (fun _ _ _ h => h) (Or.inl ⟨by rfl, ?_⟩) hS0 ?_
                      case refine_2 => (intro W hSW; go_simp; try with_reducible rfl)
                      try simp only [Act.put, List.setIfInBounds_toArray, List.set_cons_zero, List.set_cons_succ, List.getElem_toArray, List.getElem_cons_zero, List.getElem_cons_succ]
                      refine wpAnyH_take (i := 6) (v := ?_) rfl (by kernel_rfl) (by kernel_rfl) (by kernel_rfl) (fun _ _ _ h => h) (Or.inl ⟨by rfl, ?_⟩) hS0 ?_
                      case refine_2 => (intro W hSW; go_simp; try with_reducible rfl)
                      try simp only [Act.put, List.setIfInBounds_toArray, List.set_cons_zero, List.set_cons_succ, List.getElem_toArray, List.getElem_cons_zero, List.getElem_cons_succ]
                      refine wpAnyH_take (i := 7) (v := ?_) rfl (by kernel_rfl) (by kernel_rfl) (by kernel_rfl) (fun _ _ _ h => h) (Or.inl ⟨by rfl, ?_⟩) hS0 ?_
                      case refine_2 => (intro W hSW; obtain ⟨z0, z1, z2, z3, z4, z5⟩ := hSW; go_simp; try with_reducible rfl)
                      try simp only [Act.put, List.setIfInBounds_toArray, List.set_cons_zero, List.set_cons_succ, List.getElem_toArray, List.getElem_cons_zero, List.getElem_cons_succ]
                      refine wpAnyH_take (i := 8) (v := ?_) rfl (by kernel_rfl) (by kernel_rfl) (by kernel_rfl) (fun _ _ _ h => h) (Or.inl ⟨by rfl, ?_⟩) hS0 ?_
                      case refine_2 => (intro W hSW; go_simp; try with_reducible rfl)
                      try simp only [Act.put, List.setIfInBounds_toArray, List.set_cons_zero, List.set_cons_succ, List.getElem_toArray, List.getElem_cons_zero, List.getElem_cons_succ]
                      refine wpAnyH_take (i := 9) (v := ?_) rfl (by kernel_rfl) (by kernel_rfl) (by kernel_rfl) (fun _ _ _ h => h) (Or.inl ⟨by rfl, ?_⟩) hS0 ?_
                      case refine_2 => (intro W hSW; go_simp; try with_reducible rfl)
                      try simp only [Act.put, List.setIfInBounds_toArray, List.set_cons_zero, List.set_cons_succ, List.getElem_toArray, List.getElem_cons_zero, List.getElem_cons_succ]
                      refine wpAnyH_take (i := 10) (v := undef) rfl (by kernel_rfl) (by kernel_rfl) (by kernel_rfl) (fun _ _ _ h => h) (Or.inr ⟨by rfl, rfl⟩) hS0 ?_
                      try simp only [Act.put, List.setIfInBounds_toArray, List.set_cons_zero, List.set_cons_succ, List.getElem_toArray, List.getElem_cons_zero, List.getElem_cons_succ]
                      refine wpAnyH_take (i := 11) (v := undef) rfl (by kernel_rfl) (by kernel_rfl) (by kernel_rfl) (fun _ _ _ h => h) (Or.inr ⟨by rfl, rfl⟩) hS0 ?_
                      try simp only [Act.put, List.setIfInBounds_toArray, List.set_cons_zero, List.set_cons_succ, List.getElem_toArray, List.getElem_cons_zero, List.getElem_cons_succ]
                      refine wpAnyH_take (i := 12) (v := undef) rfl (by kernel_rfl) (by kernel_rfl) (by kernel_rfl) (fun _ _ _ h => h) (Or.inr ⟨by rfl, rfl⟩) hS0 ?_
                      try simp only [Act.put, List.setIfInBounds_toArray, List.set_cons_zero, List.set_cons_succ, List.getElem_toArray, List.getElem_cons_zero, List.getElem_cons_succ]
                      refine wpAnyH_take (i := 13) (v := undef) rfl (by kernel_rfl) (by kernel_rfl) (by kernel_rfl) (fun _ _ _ h => h) (Or.inr ⟨by rfl, rfl⟩) hS0 ?_
                      try simp only [Act.put, List.setIfInBounds_toArray, List.set_cons_zero, List.set_cons_succ, List.getElem_toArray, List.getElem_cons_zero, List.getElem_cons_succ]
                      refine wpAnyH_take (i := 14) (v := undef) rfl (by kernel_rfl) (by kernel_rfl) (by kernel_rfl) (fun _ _ _ h => h) (Or.inr ⟨by rfl, rfl⟩) hS0 ?_
                      try simp only [Act.put, List.setIfInBounds_toArray, List.set_cons_zero, List.set_cons_succ, List.getElem_toArray, List.getElem_cons_zero, List.getElem_cons_succ]
                      refine wpAnyH_take (i := 15) (v := undef) rfl (by kernel_rfl) (by kernel_rfl) (by kernel_rfl) (fun _ _ _ h => h) (Or.inr ⟨by rfl, rfl⟩) hS0 ?_
                      try simp only [Act.put, List.setIfInBounds_toArray, List.set_cons_zero, List.set_cons_succ, List.getElem_toArray, List.getElem_cons_zero, List.getElem_cons_succ]
                      refine wpAnyH_take (i := 16) (v := undef) rfl (by kernel_rfl) (by kernel_rfl) (by kernel_rfl) (fun _ _ _ h => h) (Or.inr ⟨by rfl, rfl⟩) hS0 ?_
                      try simp only [Act.put, List.setIfInBounds_toArray, List.set_cons_zero, List.set_cons_succ, List.getElem_toArray, List.getElem_cons_zero, List.getElem_cons_succ]
                      refine wpAnyH_take (i := 17) (v := undef) rfl (by kernel_rfl) (by kernel_rfl) (by kernel_rfl) (fun _ _ _ h => h) (Or.inr ⟨by rfl, rfl⟩) hS0 ?_
                      try simp only [Act.put, List.setIfInBounds_toArray, List.set_cons_zero, List.set_cons_succ, List.getElem_toArray, List.getElem_cons_zero, List.getElem_cons_succ]
                      refine wpAnyH_take (i := 18) (v := undef) rfl (by kernel_rfl) (by kernel_rfl) (by kernel_rfl) (fun _ _ _ h => h) (Or.inr ⟨by rfl, rfl⟩) hS0 ?_
                      try simp only [Act.put, List.setIfInBounds_toArray, List.set_cons_zero, List.set_cons_succ, List.getElem_toArray, List.getElem_cons_zero, List.getElem_cons_succ]
                      refine wpAnyH_take (i := 19) (v := undef) rfl (by kernel_rfl) (by kernel_rfl) (by kernel_rfl) (fun _ _ _ h => h) (Or.inr ⟨by rfl, rfl⟩) hS0 ?_
                      try simp only [Act.put, List.setIfInBounds_toArray, List.set_cons_zero, List.set_cons_succ, List.getElem_toArray, List.getElem_cons_zero, List.getElem_cons_succ]
                      refine wpAnyH_take (i := 20) (v := undef) rfl (by kernel_rfl) (by kernel_rfl) (by kernel_rfl) (fun _ _ _ h => h) (Or.inr ⟨by rfl, rfl⟩) hS0 ?_
                      try simp only [Act.put, List.setIfInBounds_toArray, List.set_cons_zero, List.set_cons_succ, List.getElem_toArray, List.getElem_cons_zero, List.getElem_cons_succ]
                      refine wpAnyH_take (i := 21) (v := undef) rfl (by kernel_rfl) (by kernel_rfl) (by kernel_rfl) (fun _ _ _ h => h) (Or.inr ⟨by rfl, rfl⟩) hS0 ?_
                      try simp only [Act.put, List.setIfInBounds_toArray, List.set_cons_zero, List.set_cons_succ, List.getElem_toArray, List.getElem_cons_zero, List.getElem_cons_succ]
                      refine wpAnyH_take (i := 22) (v := undef) rfl (by kernel_rfl) (by kernel_rfl) (by kernel_rfl) (fun _ _ _ h => h) (Or.inr ⟨by rfl, rfl⟩) hS0 ?_
                      try simp only [Act.put, List.setIfInBounds_toArray, List.set_cons_zero, List.set_cons_succ, List.getElem_toArray, List.getElem_cons_zero, List.getElem_cons_succ]
                      refine wpAnyH_take (i := 23) (v := undef) rfl (by kernel_rfl) (by kernel_rfl) (by kernel_rfl) (fun _ _ _ h => h) (Or.inr ⟨by rfl, rfl⟩) hS0 ?_
                      try simp only [Act.put, List.setIfInBounds_toArray, List.set_cons_zero, List.set_cons_succ, List.getElem_toArray, List.getElem_cons_zero, List.getElem_cons_succ]
                      refine wpAnyH_take (i := 24) (v := undef) rfl (by kernel_rfl) (by kernel_rfl) (by kernel_rfl) (fun _ _ _ h => h) (Or.inr ⟨by rfl, rfl⟩) hS0 ?_
                      try simp only [Act.put, List.setIfInBounds_toArray, List.set_cons_zero, List.set_cons_succ, List.getElem_toArray, List.getElem_cons_zero, List.getElem_cons_succ]
                      refine wpAnyH_take (i := 25) (v := undef) rfl (by kernel_rfl) (by kernel_rfl) (by kernel_rfl) (fun _ _ _ h => h) (Or.inr ⟨by rfl, rfl⟩) hS0 ?_
                      try simp only [Act.put, List.setIfInBounds_toArray, List.set_cons_zero, List.set_cons_succ, List.getElem_toArray, List.getElem_cons_zero, List.getElem_cons_succ]
                      refine wpAnyH_take (i := 26) (v := undef) rfl (by kernel_rfl) (by kernel_rfl) (by kernel_rfl) (fun _ _ _ h => h) (Or.inr ⟨by rfl, rfl⟩) hS0 ?_
                      try simp only [Act.put, List.setIfInBounds_toArray, List.set_cons_zero, List.set_cons_succ, List.getElem_toArray, List.getElem_cons_zero, List.getElem_cons_succ]
                      refine wpAnyH_take (i := 27) (v := undef) rfl (by kernel_rfl) (by kernel_rfl) (by kernel_rfl) (fun _ _ _ h => h) (Or.inr ⟨by rfl, rfl⟩) hS0 ?_
                      try simp only [Act.put, List.setIfInBounds_toArray, List.set_cons_zero, List.set_cons_succ, List.getElem_toArray, List.getElem_cons_zero, List.getElem_cons_succ]
                      refine wpAnyH_take (i := 28) (v := undef) rfl (by kernel_rfl) (by kernel_rfl) (by kernel_rfl) (fun _ _ _ h => h) (Or.inr ⟨by rfl, rfl⟩) hS0 ?_
                      try simp only [Act.put, List.setIfInBounds_toArray, List.set_cons_zero, List.set_cons_succ, List.getElem_toArray, List.getElem_cons_zero, List.getElem_cons_succ]
                      refine wpAnyH_take (i := 29) (v := undef) rfl (by kernel_rfl) (by kernel_rfl) (by kernel_rfl) (fun _ _ _ h => h) (Or.inr ⟨by rfl, rfl⟩) hS0 ?_
                      try simp only [Act.put, List.setIfInBounds_toArray, List.set_cons_zero, List.set_cons_succ, List.getElem_toArray, List.getElem_cons_zero, List.getElem_cons_succ]
                      refine wpAnyH_take (i := 30) (v := ?_) rfl (by kernel_rfl) (by kernel_rfl) (by kernel_rfl) (fun _ _ _ h => h) (Or.inl ⟨by rfl, ?_⟩) hS0 ?_
                      case refine_2 => (intro W hSW; go_simp; try with_reducible rfl)
                      try simp only [Act.put, List.setIfInBounds_toArray, List.set_cons_zero, List.set_cons_succ, List.getElem_toArray, List.getElem_cons_zero, List.getElem_cons_succ]
                      refine wpAnyH_done (by kernel_rfl) (NoPanic.normal ?_) _
                      go_wp2_with fail
                      go_meet
                      exact ⟨by first | rfl | (rw [HDK.out]) | simp, ⟨(by (repeat (first | with_reducible assumption | with_reducible refine below_new ?_ _ | with_reducible refine Below.drew ?_ | with_reducible exact Below.refl _ _)))⟩⟩
                  case rest =>
                    obtain ⟨rfl, hcut⟩ := hcut
                    have HU3 := kept (HU.out.next hcut.out)
                    obtain ⟨w4, hw4⟩ : ∃ w4 : World, w4 = wc := ⟨_, rfl⟩
                    obtain ⟨-, -, -, -, z4, z5⟩ := HS.out wc hcut.out
                    rw [← hw4] at HU3 z4 z5 ⊢
                    clear hw4 hcut HS CXY CYX HU HKC HIS
                    cases hcc : decide (mk < mi) && p with
                    | true =>
                      have hc2 : mk < mi ∧ p = true := by
                        rw [Bool.and_eq_true, decide_eq_true_eq] at hcc; exact hcc
                      have hm2 := HMY.out hc2
                      obtain ⟨-, hf4, hs4⟩ := HU3.out.spot hli
                      have hs5 := hs4 mk
                      rw [mkOf_set, ← hm2, ← HNX.out] at hs5
                      have HS5 := kept hs5
                      clear hs4 hs5 hm2 hc2 hcc HMY HMN HNX HU3
                      go_wp2_with fail
                      go_roundw
                      case rel => exact ⟨k + 1, by omega, by go_num, HS5⟩
                      case measure => simp [intOf]; omega
                    | false =>
                      have hc2 : ¬ (mk < mi ∧ p = true) := by
                        intro h
                        rw [decide_eq_true h.1, h.2] at hcc; cases hcc
                      have hm2 := HMN.out hc2
                      have HS5 := HU3.out
                      rw [← hm2, ← HNX.out] at HS5
                      have HS6 := kept HS5
                      clear HS5 hm2 hc2 hcc HMY HMN HNX HU3
                      go_wp2_with fail
                      go_roundw
                      case rel => exact ⟨k + 1, by omega, by go_num, HS6⟩
                      case measure => simp [intOf]; omega
                · obtain rfl : k = l.length := by omega
                  have hge3 : ¬ (l.length : Int) < (l.length : Int) := by omega
                  have HU2 := HU.out
                  rw [all_row] at HU2
                  have HU3 := kept HU2
                  clear HU HU2
                  go_wp2_with fail
                  go_roundw
                  case rel => exact ⟨i + 1, by omega, by go_num, HU3⟩
                  case measure => simp [intOf]; omega
            · obtain rfl : i = l.length := by omega
              have hge3 : ¬ (l.length : Int) < (l.length : Int) := by omega
              have HU2 := HU.out
              rw [HT1.out] at HU2
              have HU3 := kept HU2
              clear HU HU2
              go_wp2_with fail
              go_roundw
              case rel => exact ⟨t + 1, by omega, by go_num, HU3⟩
              case measure => simp [intOf]; omega
        · obtain rfl : t = l.length := by omega
          have hge3 : ¬ (l.length : Int) < (l.length : Int) := by omega
          generalize turns l.length (adjB l) l.length = R at *
          obtain ⟨w3, hw3⟩ : ∃ w3 : World, w3 = wr := ⟨_, rfl⟩
          rw [← hw3] at HU ⊢
          clear hw3 wr
          have HG0 : Kept (RdG w3 none []) := ⟨Elem.Rd.nil _, fun g hg => by cases hg⟩
          have HM0 : Kept (([] : List GrpM).map GrpM.l = (gsUp l.length (cidAt l) R 0).foldl insG []) := ⟨rfl⟩
          go_wp2_with fail
          go_loopw [8, 9] (fun ov mv wr => ∃ (m : Nat) (A2 : Option Addr) (c2 : Nat) (outs : List GrpM), m ≤ l.length ∧ ov = .slice A2 outs.length c2 ∧ mv = .int .i64 (m : Int) ∧ outs.length ≤ c2 ∧ outs.length ≤ 10 ∧ Kept (outs.map GrpM.l = (gsUp l.length (cidAt l) R m).foldl insG []) ∧ Kept (RdG wr A2 outs) ∧ Kept (MkSt w wr l.length (mkOf l.length R))) (fun _ mv _ => l.length - (intOf mv).toNat)
          case atStart => exact ⟨0, none, 0, [], Nat.zero_le _, rfl, rfl, Nat.zero_le _, Nat.zero_le _, HM0, HG0, HU⟩
          case round =>
            clear HM0 HG0 HU
            obtain ⟨m, A2, c2, outs, hm, rfl, rfl, hoc, ho10, HM, HG, HU⟩ := hrel
            by_cases hlm : m < l.length
            · have hmn : (m : Int) < (l.length : Int) := by omega
              have HG0 : Kept (wordE.Rd wr wr.heap.size none []) := ⟨Elem.Rd.nil _⟩
              have HN0 : Kept (([] : List Nat) = normL (inG R (cidAt l) 0 m)) := ⟨rfl⟩
              go_wp2_with fail
              go_loopw [10, 11] (fun gv iv wr => ∃ (i : Nat) (A3 : Option Addr) (c3 : Nat) (g : List Nat), i ≤ l.length ∧ gv = .slice A3 g.length c3 ∧ iv = .int .i64 (i : Int) ∧ Kept (g = normL (inG R (cidAt l) i m)) ∧ Kept (wordE.Rd wr wr.heap.size A3 g) ∧ Kept (RdG wr A2 outs) ∧ Kept (MkSt w wr l.length (mkOf l.length R))) (fun _ iv _ => l.length - (intOf iv).toNat)
              case atStart => exact ⟨0, none, 0, [], Nat.zero_le _, rfl, rfl, HN0, HG0, HG, HU⟩
              case round =>
                clear HG0 HN0 HG HU
                obtain ⟨i, A3, c3, g, hi, rfl, rfl, HN, HW, HG, HU⟩ := hrel
                have hgl : g.length ≤ 10 := by rw [HN.out]; have h1 := norm_len (inG R (cidAt l) i m); have h2 := inG_len R (cidAt l) i m; omega
                by_cases hli : i < l.length
                · have hin : (i : Int) < (l.length : Int) := by omega
                  obtain ⟨x, hx⟩ : ∃ x, l[i]? = some x := ⟨_, List.getElem?_eq_getElem hli⟩
                  obtain ⟨b, o, rfl, hbB, u0, -, -⟩ := card_at HL.out hx
                  have hcx : cidAt l i = x.cid := by unfold cidAt; rw [getD_of hx]
                  have hnx := inG_next R (cidAt l) i m
                  have hic := (HU.out.spot hli).1
                  rw [mkOf_get hli] at hic
                  have u0 := (HU.out.1.cell (p := ⟨b, o + i * 2, none⟩) hbB).trans u0
                  rw [hcx] at hnx
                  by_cases hrm : R i = m
                  · rw [if_pos hrm] at hnx
                    have HN2 : Kept (putN g x.cid = normL (inG R (cidAt l) (i + 1) m)) := ⟨by rw [hnx, norm_snoc, HN.out]⟩
                    have CP := kept (rput_any A3 g c3 x.cid wr HW.out (by omega))
                    generalize x.cid = xcid at *
                    have e1 : ((R i : Int) == (m : Int)) = true := by rw [beq_iff_eq]; omega
                    clear hnx hx hcx HN
                    generalize R i = ri at *
                    generalize putN g xcid = g2 at *
                    clear hrm
                    go_wp2_with fail
                    refine CP.out.mono ?_
                    rintro e w5 ⟨A5, c5, rfl, ho5, hcp5, hb5⟩
                    have HW5 := kept ho5.rd
                    have HG5 := kept (HG.out.next hb5)
                    have HU5 := kept (HU.out.next hb5)
                    clear ho5 hb5 CP u0 hic HW HG HU
                    go_wp2_with fail
                    go_roundw
                    case rel => exact ⟨i + 1, A5, c5, g2, by omega, rfl, by go_num, HN2, HW5, HG5, HU5⟩
                    case measure => simp [intOf]; omega
                  · rw [if_neg hrm, List.append_nil] at hnx
                    have HN2 : Kept (g = normL (inG R (cidAt l) (i + 1) m)) := ⟨by rw [hnx, HN.out]⟩
                    have e1 : ((R i : Int) == (m : Int)) = false := by rw [beq_eq_false_iff_ne]; omega
                    have e2 : ¬ (R i : Int) = (m : Int) := by omega
                    clear hnx hx hcx HN
                    generalize R i = ri at *
                    clear hrm
                    go_wp2_with fail
                    go_roundw
                    case rel => exact ⟨i + 1, A3, c3, g, by omega, rfl, by go_num, HN2, HW, HG, HU⟩
                    case measure => simp [intOf]; omega
                · obtain rfl : i = l.length := by omega
                  have hge3 : ¬ (l.length : Int) < (l.length : Int) := by omega
                  have HGN := kept (gsUp_next l.length (cidAt l) R m)
                  rw [class_inG] at HGN
                  rw [← HN.out] at HGN
                  by_cases h2 : g.length < 2
                  · have h2i : (g.length : Int) < 2 := by omega
                    have HM2 : Kept (outs.map GrpM.l = (gsUp l.length (cidAt l) R (m + 1)).foldl insG []) := ⟨by rw [HGN.out, if_neg (by omega), List.append_nil]; exact HM.out⟩
                    clear HGN HM HN
                    go_wp2_with fail
                    go_roundw
                    case rel => exact ⟨m + 1, A2, c2, outs, by omega, rfl, by go_num, hoc, ho10, HM2, HG, HU⟩
                    case measure => simp [intOf]; omega
                  · have h2i : ¬ (g.length : Int) < 2 := by omega
                    have HM2 : Kept ((gsUp l.length (cidAt l) R (m + 1)).foldl insG [] = insG (outs.map GrpM.l) g) := ⟨by rw [HGN.out, if_pos (by omega), List.foldl_append, ← HM.out]; rfl⟩
                    have hl11 : (gsUp l.length (cidAt l) R (m + 1)).length ≤ m + 1 := gsUp_len _ _ _ _
                    have HLN := kept (fold_len (gsUp l.length (cidAt l) R (m + 1)) [])
                    have HTEN := kept (gsUp_ten HM.out)
                    clear HGN HM HN
                    obtain ⟨ws, hws⟩ : ∃ ws : World, ws = wr := ⟨_, rfl⟩
                    rw [← hws] at HW HG HU ⊢
                    clear hws wr
                    have hb0 : Kept (Below ws.heap.size ws ws) := ⟨Below.refl _ _⟩
                    have HI0 := kept (InsSt.start outs ⟨A3, g, c3⟩)
                    have HO0 : Kept (grpE.Own ws ws.heap.size 49 (.slice none 0 0) []) := ⟨Elem.Own.nilv _ _ _ _⟩
                    have HRG := kept (fun (W : World) (h : Below ws.heap.size ws W) => (word_rd.1 HW.out).next h)
                    have HRO := kept (fun (W : World) (h : Below ws.heap.size ws W) => HG.out.next h)
                    go_wp2_with fail
                    go_loopw [12, 13, 14] (fun nv dv iv wr => ∃ (i : Nat) (d : Bool) (A4 : Option Addr) (c4 : Nat) (nx : List GrpM), i ≤ outs.length ∧ nv = .slice A4 nx.length c4 ∧ dv = .bool d ∧ iv = .int .i64 (i : Int) ∧ Kept (InsSt outs ⟨A3, g, c3⟩ i d nx) ∧ Kept (Below ws.heap.size ws wr) ∧ Kept (grpE.Own wr ws.heap.size 49 (.slice A4 nx.length c4) nx)) (fun _ _ iv _ => outs.length - (intOf iv).toNat)
                    case atStart => exact ⟨0, false, none, 0, [], Nat.zero_le _, rfl, rfl, rfl, HI0, hb0, HO0⟩
                    case round =>
                      clear HI0 hb0 HO0
                      obtain ⟨i, d, A4, c4, nx, hi, rfl, rfl, rfl, HI, HB, HO⟩ := hrel
                      have hnl := HI.out.len
                      by_cases hlo : i < outs.length
                      · have hion : (i : Int) < (outs.length : Int) := by omega
                        obtain ⟨h, hh⟩ : ∃ h, outs[i]? = some h := ⟨_, List.getElem?_eq_getElem hlo⟩
                        obtain ⟨b1, o1, rfl, hb1, x0⟩ := grpE_get (HRO.out ws (Below.refl _ _)).1 hh
                        have HX0 := kept (fun (W : World) (hb : Below ws.heap.size ws W) => (hb.cell (p := ⟨b1, o1 + i, none⟩) hb1).trans x0)
                        have HRH := kept (fun (W : World) (hb : Below ws.heap.size ws W) => (HRO.out W hb).2 h (List.mem_of_getElem? hh))
                        have x1 := HX0.out wr HB.out
                        have hhl : h.l.length ≤ 10 := Nat.le_trans (HTEN.out h (List.mem_of_getElem? hh)) hn
                        have IY : Kept (∀ nx, InsSt outs ⟨A3, g, c3⟩ i false nx → aheadL g h.l = true → InsSt outs ⟨A3, g, c3⟩ (i + 1) true (nx ++ [⟨A3, g, c3⟩] ++ [h])) := ⟨fun nx h1 h2 => h1.yes hh h2⟩
                        have IN : Kept (∀ nx, InsSt outs ⟨A3, g, c3⟩ i false nx → aheadL g h.l = false → InsSt outs ⟨A3, g, c3⟩ (i + 1) false (nx ++ [h])) := ⟨fun nx h1 h2 => h1.no hh h2⟩
                        have IM : Kept (∀ nx, InsSt outs ⟨A3, g, c3⟩ i true nx → InsSt outs ⟨A3, g, c3⟩ (i + 1) true (nx ++ [h])) := ⟨fun nx h1 => h1.more hh⟩
                        clear hh x0
                        obtain ⟨hA, hL, hC⟩ := h
                        unfold GrpM.val at HX0 x1
                        dsimp only at HX0 x1 HRH hhl IY IN IM
                        have CA := kept (fun (W : World) (h : Below ws.heap.size ws W) => rahead_any A3 hA g hL c3 hC W (HRG.out W h) (HRH.out W h) (by omega) (by omega))
                        cases d with
                        | true =>
                          clear CA IY IN x1
                          have xw := HX0.out wr HB.out
                          have hnb : Below wr.heap.size wr (wr.alloc (.cells #[.slice hA hL.length hC] 49)) := (Below.refl _ _).alloc (Nat.le_refl _) _
                          have hoB := HO.out.next hnb
                          have hbB := HB.out.trans (hnb.mono HB.out.size)
                          have hrn : grpE.Rd (wr.alloc (.cells #[.slice hA hL.length hC] 49)) (wr.heap.size + 1) (some ⟨wr.heap.size, 0, none⟩) [⟨hA, hL, hC⟩] := Mem.Rd.new wr [.slice hA hL.length hC] 49
                          have hz : (nx.length + [(⟨hA, hL, hC⟩ : GrpM)].length) * 24 ≤ 140737488355328 := by simp; omega
                          have hbase : ws.heap.size ≤ (wr.alloc (.cells #[.slice hA hL.length hC] 49)).heap.size := Nat.le_trans HB.out.size hnb.size
                          clear HX0 HRH
                          go_wp2_with (at_builtin; refine wpl_appEU _ grpE rfl (.tmp 132) (.tmp 137) 47 rfl ws.heap.size 49 Tryz.underlying47 grp_info rfl _ nx rfl hoB _ _ _ _ [⟨hA, hL, hC⟩] rfl rfl hrn hz (by decide) hbase ?_; intro A9 c9 w9 r9 hr9 hown9 hu9 hx9)
                          have HB9 : Kept (Below ws.heap.size ws w9) := ⟨hbB.trans ((hu9 _ fun _ e => e).below hbase fun q _ e => (hoB.lt q e).1)⟩
                          have HO9 := kept hown9
                          have HR9 := hr9
                          clear hr9 hown9 hu9 hx9 hoB hbB hrn hz hbase hnb
                          have HI9 : Kept (InsSt outs ⟨A3, g, c3⟩ (i + 1) true r9) := ⟨by rw [HR9.out]; exact IM.out _ HI.out⟩
                          clear xw HI HR9
                          go_wp2_with fail
                          go_roundw
                          case rel => exact ⟨i + 1, true, A9, c9, r9, by omega, rfl, rfl, by go_num, HI9, HB9, HO9⟩
                          case measure => simp [intOf]; omega
                        | false =>
                          cases ha : aheadL g hL with
                          | false =>
                            have CA2 := CA.out wr HB.out
                            rw [ha] at CA2
                            have CA3 := kept CA2
                            have I2 := kept (IN.out _ HI.out ha)
                            clear CA CA2 IY IN IM ha
                            go_wp2_with fail
                            refine CA3.out.mono ?_
                            rintro e w6 ⟨rfl, hb6⟩
                            have HB6 := kept (HB.out.trans (hb6.mono HB.out.size))
                            have HO6 := kept (HO.out.next hb6)
                            clear hb6 CA3 HB HO x1
                            have xw := HX0.out w6 HB6.out
                            have hnb : Below w6.heap.size w6 (w6.alloc (.cells #[.slice hA hL.length hC] 49)) := (Below.refl _ _).alloc (Nat.le_refl _) _
                            have hoB := HO6.out.next hnb
                            have hbB := HB6.out.trans (hnb.mono HB6.out.size)
                            have hrn : grpE.Rd (w6.alloc (.cells #[.slice hA hL.length hC] 49)) (w6.heap.size + 1) (some ⟨w6.heap.size, 0, none⟩) [⟨hA, hL, hC⟩] := Mem.Rd.new w6 [.slice hA hL.length hC] 49
                            have hz : (nx.length + [(⟨hA, hL, hC⟩ : GrpM)].length) * 24 ≤ 140737488355328 := by simp; omega
                            have hbase : ws.heap.size ≤ (w6.alloc (.cells #[.slice hA hL.length hC] 49)).heap.size := Nat.le_trans HB6.out.size hnb.size
                            clear HX0 HRH
                            go_wp2_with (at_builtin; refine wpl_appEU _ grpE rfl (.tmp 132) (.tmp 137) 47 rfl ws.heap.size 49 Tryz.underlying47 grp_info rfl _ nx rfl hoB _ _ _ _ [⟨hA, hL, hC⟩] rfl rfl hrn hz (by decide) hbase ?_; intro A9 c9 w9 r9 hr9 hown9 hu9 hx9)
                            have HB9 : Kept (Below ws.heap.size ws w9) := ⟨hbB.trans ((hu9 _ fun _ e => e).below hbase fun q _ e => (hoB.lt q e).1)⟩
                            have HO9 := kept hown9
                            have HR9 := hr9
                            clear hr9 hown9 hu9 hx9 hoB hbB hrn hz hbase hnb
                            have HI9 : Kept (InsSt outs ⟨A3, g, c3⟩ (i + 1) false r9) := ⟨by rw [HR9.out]; exact I2.out⟩
                            clear xw HI HR9
                            go_wp2_with fail
                            go_roundw
                            case rel => exact ⟨i + 1, false, A9, c9, r9, by omega, rfl, rfl, by go_num, HI9, HB9, HO9⟩
                            case measure => simp [intOf]; omega
                          | true =>
                            have CA2 := CA.out wr HB.out
                            rw [ha] at CA2
                            have CA3 := kept CA2
                            have I2 := kept (IY.out _ HI.out ha)
                            clear CA CA2 IY IN IM ha
                            go_wp2_with fail
                            refine CA3.out.mono ?_
                            rintro e w6 ⟨rfl, hb6⟩
                            have HB6 := kept (HB.out.trans (hb6.mono HB.out.size))
                            have HO6 := kept (HO.out.next hb6)
                            clear hb6 CA3 HB HO x1
                            have hnb : Below w6.heap.size w6 (w6.alloc (.cells #[.slice A3 g.length c3] 49)) := (Below.refl _ _).alloc (Nat.le_refl _) _
                            have hoB := HO6.out.next hnb
                            have hbB := HB6.out.trans (hnb.mono HB6.out.size)
                            have hrn : grpE.Rd (w6.alloc (.cells #[.slice A3 g.length c3] 49)) (w6.heap.size + 1) (some ⟨w6.heap.size, 0, none⟩) [⟨A3, g, c3⟩] := Mem.Rd.new w6 [.slice A3 g.length c3] 49
                            have hz : (nx.length + [(⟨A3, g, c3⟩ : GrpM)].length) * 24 ≤ 140737488355328 := by simp; omega
                            have hbase : ws.heap.size ≤ (w6.alloc (.cells #[.slice A3 g.length c3] 49)).heap.size := Nat.le_trans HB6.out.size hnb.size
                            go_upto_region 36 with (at_builtin; refine wpl_appEU _ grpE rfl (.tmp 128) (.tmp 130) 47 rfl ws.heap.size 49 Tryz.underlying47 grp_info rfl _ nx rfl hoB _ _ _ _ [⟨A3, g, c3⟩] rfl rfl hrn hz (by decide) hbase ?_; intro A7 c7 w7 r7 hr7 hown7 hu7 hx7)
                            have HB7 : Kept (Below ws.heap.size ws w7) := ⟨hbB.trans ((hu7 _ fun _ e => e).below hbase fun q _ e => (hoB.lt q e).1)⟩
                            have HO7 := kept hown7
                            have HR7 := hr7
                            clear hr7 hown7 hu7 hx7 hoB hbB hrn hz hbase hnb
                            have hr7l : r7.length ≤ i + 2 := by rw [HR7.out]; simp; omega
                            have I3 := I2.out
                            rw [← HR7.out] at I3
                            have I4 := kept I3
                            clear I2 I3 HR7 HB6 HO6
                            have xw := HX0.out w7 HB7.out
                            have hnb : Below w7.heap.size w7 (w7.alloc (.cells #[.slice hA hL.length hC] 49)) := (Below.refl _ _).alloc (Nat.le_refl _) _
                            have hoB := HO7.out.next hnb
                            have hbB := HB7.out.trans (hnb.mono HB7.out.size)
                            have hrn : grpE.Rd (w7.alloc (.cells #[.slice hA hL.length hC] 49)) (w7.heap.size + 1) (some ⟨w7.heap.size, 0, none⟩) [⟨hA, hL, hC⟩] := Mem.Rd.new w7 [.slice hA hL.length hC] 49
                            have hz : (r7.length + [(⟨hA, hL, hC⟩ : GrpM)].length) * 24 ≤ 140737488355328 := by simp; omega
                            have hbase : ws.heap.size ≤ (w7.alloc (.cells #[.slice hA hL.length hC] 49)).heap.size := Nat.le_trans HB7.out.size hnb.size
                            clear HX0 HRH
                            go_wp2_with (at_builtin; refine wpl_appEU _ grpE rfl (.tmp 132) (.tmp 137) 47 rfl ws.heap.size 49 Tryz.underlying47 grp_info rfl _ r7 rfl hoB _ _ _ _ [⟨hA, hL, hC⟩] rfl rfl hrn hz (by decide) hbase ?_; intro A9 c9 w9 r9 hr9 hown9 hu9 hx9)
                            have HB9 : Kept (Below ws.heap.size ws w9) := ⟨hbB.trans ((hu9 _ fun _ e => e).below hbase fun q _ e => (hoB.lt q e).1)⟩
                            have HO9 := kept hown9
                            have HR9 := hr9
                            clear hr9 hown9 hu9 hx9 hoB hbB hrn hz hbase hnb
                            have HI9 : Kept (InsSt outs ⟨A3, g, c3⟩ (i + 1) true r9) := ⟨by rw [HR9.out]; exact I4.out⟩
                            clear xw HI HR9
                            go_wp2_with fail
                            go_roundw
                            case rel => exact ⟨i + 1, true, A9, c9, r9, by omega, rfl, rfl, by go_num, HI9, HB9, HO9⟩
                            case measure => simp [intOf]; omega
                      · obtain rfl : i = outs.length := by omega
                        have hge5 : ¬ (outs.length : Int) < (outs.length : Int) := by omega
                        cases d with
                        | true =>
                          have HM3 : Kept (nx.map GrpM.l = (gsUp l.length (cidAt l) R (m + 1)).foldl insG []) := ⟨by rw [HM2.out]; exact HI.out.end_yes⟩
                          have HG3 : Kept (RdG wr A4 nx) := ⟨HO.out.rd, fun q hq => by
                            rcases HI.out.mem q hq with rfl | h1
                            · exact HRG.out wr HB.out
                            · exact (HRO.out wr HB.out).2 q h1⟩
                          have HU3 := kept (HU.out.next HB.out)
                          have hcp := HO.out.cap
                          have h10 : nx.length ≤ 10 := by
                            have h1 := congrArg List.length HM3.out
                            rw [List.length_map, HLN.out] at h1
                            simp only [List.length_nil] at h1
                            omega
                          clear HI HB HO HU HG HRG HRO HM2 HLN HTEN
                          go_wp2_with fail
                          go_roundw
                          case rel => exact ⟨m + 1, A4, c4, nx, by omega, rfl, by go_num, hcp, h10, HM3, HG3, HU3⟩
                          case measure => simp [intOf]; omega
                        | false =>
                          have I2 := kept HI.out.end_no
                          have HME := kept HI.out.mem
                          have hnb : Below wr.heap.size wr (wr.alloc (.cells #[.slice A3 g.length c3] 49)) := (Below.refl _ _).alloc (Nat.le_refl _) _
                          have hoB := HO.out.next hnb
                          have hbB := HB.out.trans (hnb.mono HB.out.size)
                          have hrn : grpE.Rd (wr.alloc (.cells #[.slice A3 g.length c3] 49)) (wr.heap.size + 1) (some ⟨wr.heap.size, 0, none⟩) [⟨A3, g, c3⟩] := Mem.Rd.new wr [.slice A3 g.length c3] 49
                          have hz : (nx.length + [(⟨A3, g, c3⟩ : GrpM)].length) * 24 ≤ 140737488355328 := by simp; omega
                          have hbase : ws.heap.size ≤ (wr.alloc (.cells #[.slice A3 g.length c3] 49)).heap.size := Nat.le_trans HB.out.size hnb.size
                          go_wp2_with (at_builtin; refine wpl_appEU _ grpE rfl (.tmp 141) (.tmp 143) 47 rfl ws.heap.size 49 Tryz.underlying47 grp_info rfl _ nx rfl hoB _ _ _ _ [⟨A3, g, c3⟩] rfl rfl hrn hz (by decide) hbase ?_; intro A7 c7 w7 r7 hr7 hown7 hu7 hx7)
                          have HB7 : Kept (Below ws.heap.size ws w7) := ⟨hbB.trans ((hu7 _ fun _ e => e).below hbase fun q _ e => (hoB.lt q e).1)⟩
                          have HO7 := kept hown7
                          have HR7 := hr7
                          clear hr7 hown7 hu7 hx7 hoB hbB hrn hz hbase hnb
                          have HM3 : Kept (r7.map GrpM.l = (gsUp l.length (cidAt l) R (m + 1)).foldl insG []) := ⟨by rw [HM2.out, HR7.out]; exact I2.out⟩
                          have HG3 : Kept (RdG w7 A7 r7) := ⟨HO7.out.rd, fun q hq => by
                            rw [HR7.out] at hq
                            rcases List.mem_append.1 hq with hq | hq
                            · rcases HME.out q hq with rfl | h1
                              · exact HRG.out w7 HB7.out
                              · exact (HRO.out w7 HB7.out).2 q h1
                            · rw [List.mem_singleton.1 hq]; exact HRG.out w7 HB7.out⟩
                          have HU3 := kept (HU.out.next HB7.out)
                          have hcp := HO7.out.cap
                          have h10 : r7.length ≤ 10 := by
                            have h1 := congrArg List.length HM3.out
                            rw [List.length_map, HLN.out] at h1
                            simp only [List.length_nil] at h1
                            omega
                          clear HI HB HO HU HG HRG HRO HM2 HLN HTEN HME I2 HR7 HB7 HO7
                          go_wp2_with fail
                          go_roundw
                          case rel => exact ⟨m + 1, A7, c7, r7, by omega, rfl, by go_num, hcp, h10, HM3, HG3, HU3⟩
                          case measure => simp [intOf]; omega
            · obtain rfl : m = l.length := by omega
              have hge4 : ¬ (l.length : Int) < (l.length : Int) := by omega
              have HR : Kept (∀ q : List GrpM, q = outs → GivesG w (sortG (groupsL l.length (cidAt l) R)) (.returned (.slice A2 q.length c2)) wr) := ⟨fun q hq => by
                subst hq
                exact ⟨A2, c2, q, rfl, by rw [HSG.out]; exact HM.out, hoc, HG.out, HU.out.1⟩⟩
              clear HM HG HU HSG
              go_wp2_with fail
              go_ret
              exact HR.out outs rfl
end Go.Proofs.YtfkfpanhbanljaaGreatDoor.Twin
