import Derived.Test.YtnmcclkpgbdenaaChgGood
import Derived.Deep.DeepAppendRoom
import Derived.Deep.RegionLaw
import Derived.Lib.SliceRun
import Derived.Test.YtnmcclkpgbdenaaSet3
import Derived.Test.YtnmcclkpgbdenaaSet4
import Derived.Shelf.Sort.Plain
import Derived.Shelf.Slices.CompactS
import Derived.Shelf.Slices.In.SortNone
import Derived.Lib.OwnBridge
import Derived.Sort.OwnSorted
/- Layer 50 (change): slices.Delete of one card. (printed by tools/gencd.py) -/
namespace Go.Proofs.Ytnmcclkpgbdenaa.Chg
open Go.RowKit Go.Proofs.Ytnmcclkpgbdenaa.Mem Go.Proofs.Ytnmcclkpgbdenaa.Card

def cardE : Elem CardM := ⟨CardM.cells, 2, by decide, fun _ => rfl, fun x u hu => by
  simp only [CardM.cells, List.mem_cons, List.not_mem_nil, or_false] at hu
  rcases hu with rfl | rfl <;> rfl⟩
theorem ownK_beyond {size : Nat} {w : World} {base : Nat} {e : TypeId} {r n c : Nat} {xs : List Value} (h : OwnK size w base e (.slice (some ⟨r, 0, none⟩) n c) n xs) {j : Nat} (hj : n * size ≤ j) (v : Value) : OwnK size (w.setCell ⟨r, j, none⟩ v) base e (.slice (some ⟨r, 0, none⟩) n c) n xs := by
  rcases h.2 with ⟨h0, _⟩ | ⟨g, cap, cur, hv, hbg, hg, hnc, hcm, hcs, htake⟩
  · cases h0
  · cases hv
    have hk : Blk w r cur.toList e := by show w.heap[r]? = _; simpa using hg
    refine ⟨h.1, .inr ⟨r, c, (cur.toList.set j v).toArray, rfl, hbg, hk.set j v, hnc, hcm, by simpa using hcs, ?_⟩⟩
    rw [← htake]
    show ((cur.toList.set j v).toArray.toList).take _ = _
    simp only [List.take_set]
    rw [List.set_eq_of_length_le]
    rw [List.length_take]
    omega
theorem ownK_cells {size : Nat} {w : World} {base : Nat} {e : TypeId} {r n c : Nat} {xs : List Value} (h : OwnK size w base e (.slice (some ⟨r, 0, none⟩) n c) n xs) {j : Nat} (hj : j < c * size) : (w.cell? ⟨r, j, none⟩).isSome = true := by
  rcases h.2 with ⟨h0, _⟩ | ⟨g, cap, cur, hv, hbg, hg, hnc, hcm, hcs, htake⟩
  · cases h0
  · cases hv
    have hk : Blk w r cur.toList e := by show w.heap[r]? = _; simpa using hg
    have hj2 : j < cur.toList.length := by simp [hcs]; exact hj
    rw [hk.cell (List.getElem?_eq_getElem hj2)]
    rfl
theorem clear_one (W : World) (r o c : Nat) (hc : ∀ j, j < 2 → (W.cell? ⟨r, o + j, none⟩).isSome = true) (hf : ∀ j, j < 2 → W.frozen? ⟨r, o + j, none⟩ = false) (ty : TypeId) :
    (Builtin.clear_ #[22] ty #[.slice (some ⟨r, o, none⟩) 1 c]).run Try.prog W = .ok (.tuple #[]) ((W.setCell ⟨r, o, none⟩ (.int .u64 0)).setCell ⟨r, o + 1, none⟩ (.slice none 0 0)) := by
  have hst := run_storeCells_cells (P := Try.prog) r o [.int .u64 0, .slice none 0 0] 0 W (by simpa using hc) (by simpa using hf) (by intro v hv; simp at hv; rcases hv with rfl | rfl <;> rfl)
  have hv : (zeroValue 38).run Try.prog W = .ok (.agg #[.int .u64 0, .slice none 0 0]) W := by kernel_rfl
  have hz : (Builtin.zeroCells (Value.agg #[.int .u64 0, .slice none 0 0]).cells 1).toList = [.int .u64 0, .slice none 0 0] := by kernel_rfl
  simp only [Nat.add_zero] at hst
  simp [Builtin.clear_, run_underlying Try.underlying22, hv, hz, hst, World.setCells]
theorem step_appS {P : Program} {w : World} {ops : Array Oper} {o : Oper} {a : Act} {K : Act → World → Prop} {Q : Exit → Act → World → Prop} {F : Prop} (hgd : o.guard = none) (s x : Operand) (t : TypeId)
    (ho : o.op = .call { callee := .builtin .append, args := #[s, x], argTypes := #[t, t] })
    (base : Nat) (e : TypeId) (i : TypeInfo) (size : Nat) (ht : P.underlying t = some (.slice e)) (hi : P.info? e = some i) (hsize : i.size = size)
    (g n cap : Nat) (xs : List Value) (hs : a.eval s = .slice (some ⟨g, 0, none⟩) n cap) (hown : OwnK size w base e (.slice (some ⟨g, 0, none⟩) n cap) n xs)
    (ad : Addr) (m c : Nat) (news : List Value) (hx : a.eval x = .slice (some ad) m c) (hl : news.length = m * size) (hnews : ∀ j u, news[j]? = some u → w.cell? (ad.add j) = some u) (h1 : ∀ u ∈ news, u.oneCell' = true)
    (hroom : n + m ≤ cap)
    (h : ∀ w', OwnK size w' base e (.slice (some ⟨g, 0, none⟩) (n + m) cap) (n + m) (xs ++ news) → Upd (fun k => k = g) w w' → K (a.put o.dst (.slice (some ⟨g, 0, none⟩) (n + m) cap)) w') :
    if Region.wanted o (yielded ops a.tmps) = true then Oper.wp P o a w K Q else F := by
  rw [if_pos (by simp [Region.wanted, hgd])]
  exact wp_append_own_spare w s x t ho base e i size ht hi hsize g n cap xs hs hown ad m c news hx hl hnews h1 hroom fun w' h2 h3 => h w' h2 ((Upd.refl _ w).grown h3 fun k hk => .inl (Option.some.inj hk).symm)
theorem ownK_take {size : Nat} {w : World} {base : Nat} {e : TypeId} {r n c i : Nat} {xs : List Value} (h : OwnK size w base e (.slice (some ⟨r, 0, none⟩) n c) n xs) (hi : i ≤ n) : OwnK size w base e (.slice (some ⟨r, 0, none⟩) i c) i (xs.take (i * size)) := by
  rcases h.2 with ⟨h0, _⟩ | ⟨g, cap, cur, hv, hbg, hg, hnc, hcm, hcs, htake⟩
  · cases h0
  · cases hv
    have hle : i * size ≤ n * size := Nat.mul_le_mul_right _ hi
    refine ⟨by rw [List.length_take, h.1]; omega, .inr ⟨r, c, cur, rfl, hbg, hg, by omega, hcm, hcs, ?_⟩⟩
    rw [← htake, List.take_take, Nat.min_eq_left hle]
set_option maxRecDepth 100000 in
set_option maxHeartbeats 4000000 in
theorem del_at (base r i m c : Nat) (xs : List CardM) (w : World) (hN : xs.length = i + 1 + m) (h : cardE.Own w base 38 (.slice (some ⟨r, 0, none⟩) (i + 1 + m) c) xs) (hc5 : xs.length ≤ 512) :
    Calls Try.prog 83 #[.slice (some ⟨r, 0, none⟩) (i + 1 + m) c, .int .i64 (i : Int), .int .i64 ((i : Int) + 1)] w fun e w' => e = .returned (.slice (some ⟨r, 0, none⟩) (i + m) c) ∧ cardE.Own w' base 38 (.slice (some ⟨r, 0, none⟩) (i + m) c) (xs.eraseIdx i) ∧ Upd (fun k => k = r) w w' := by
  obtain ⟨i0, hi0, hz0, hz1, hz2⟩ := info_parts card_info
  have hcap : i + 1 + m ≤ c := by have := h.cap; omega
  have hcm : c ≤ 9223372036854775807 := by
    obtain ⟨A, c', he, _, h2, _⟩ := OwnK.form h
    injection he with _ _ e3
    subst e3
    exact h2
  have hown0 : OwnK 2 w base 38 (.slice (some ⟨r, 0, none⟩) (i + 1 + m) c) (i + 1 + m) (cardE.cells xs) := by
    have : OwnK cardE.k w base 38 (.slice (some ⟨r, 0, none⟩) (i + 1 + m) c) xs.length (cardE.cells xs) := h
    rwa [hN] at this
  have hown1 : OwnK 2 w.drew base 38 (.slice (some ⟨r, 0, none⟩) i c) i (cardE.cells (xs.take i)) := by
    have h1 := ownK_take (i := i) hown0 (by omega)
    rw [← cardE.cells_take]
    exact h1
  have hnews : ∀ j u, (cardE.cells (xs.drop (i + 1)))[j]? = some u → w.drew.cell? ((⟨r, (i + 1) * 2, none⟩ : Addr).add j) = some u := fun j u hu => by
    rw [← cardE.cells_drop, List.getElem?_drop] at hu
    obtain ⟨b, o, e, -, hc2⟩ := h.rd (by intro e; rw [e] at hu; simp at hu)
    injection e with e
    injection e with e1 e2
    subst e1 e2
    rw [add_plain]
    have := hc2 _ u hu
    rwa [Nat.zero_add] at this
  have hln : (cardE.cells (xs.drop (i + 1))).length = m * 2 := by rw [cardE.cells_length, List.length_drop, hN, show i + 1 + m - (i + 1) = m from by omega]; rfl
  have her : xs.eraseIdx i = xs.take i ++ xs.drop (i + 1) := List.eraseIdx_eq_take_drop_succ xs i
  have hel : (xs.eraseIdx i).length = i + m := by rw [her, List.length_append, List.length_take, List.length_drop, hN]; omega
  have HER := kept her
  have HEL := kept hel
  have HCE : Kept (cardE.cells (xs.take i) ++ cardE.cells (xs.drop (i + 1)) = cardE.cells (xs.eraseIdx i)) := ⟨by rw [← cardE.cells_append, ← her]⟩
  have HFIN : Kept (∀ w2, OwnK 2 w2 base 38 (.slice (some ⟨r, 0, none⟩) (i + m) c) (i + m) (cardE.cells (xs.take i) ++ cardE.cells (xs.drop (i + 1))) → Upd (fun k => k = r) w.drew w2 →
      (∀ ty, (Builtin.clear_ #[22] ty #[.slice (some ⟨r, (i + m) * 2, none⟩) 1 (c - (i + m))]).run Try.prog w2 = .ok (.tuple #[]) ((w2.setCell ⟨r, (i + m) * 2, none⟩ (.int .u64 0)).setCell ⟨r, (i + m) * 2 + 1, none⟩ (.slice none 0 0))) ∧
      cardE.Own ((w2.setCell ⟨r, (i + m) * 2, none⟩ (.int .u64 0)).setCell ⟨r, (i + m) * 2 + 1, none⟩ (.slice none 0 0)) base 38 (.slice (some ⟨r, 0, none⟩) (i + m) c) (xs.eraseIdx i) ∧
      Upd (fun k => k = r) w ((w2.setCell ⟨r, (i + m) * 2, none⟩ (.int .u64 0)).setCell ⟨r, (i + m) * 2 + 1, none⟩ (.slice none 0 0))) := ⟨fun w2 ho hu => by
    refine ⟨clear_one w2 r ((i + m) * 2) (c - (i + m)) (fun j hj => ownK_cells ho (by omega)) (fun j hj => World.ownsRow.frozenAt ho _), ?_, ?_⟩
    · have h1 := ownK_beyond ho (j := (i + m) * 2) (Nat.le_refl _) (.int .u64 0)
      have h2 := ownK_beyond h1 (j := (i + m) * 2 + 1) (by omega) (.slice none 0 0)
      rw [HCE.out] at h2
      have h4 : OwnK cardE.k ((w2.setCell ⟨r, (i + m) * 2, none⟩ (.int .u64 0)).setCell ⟨r, (i + m) * 2 + 1, none⟩ (.slice none 0 0)) base 38 (.slice (some ⟨r, 0, none⟩) (i + m) c) (xs.eraseIdx i).length (cardE.cells (xs.eraseIdx i)) := by
        rw [HEL.out]; exact h2
      exact h4
    · have h0 : Upd (fun k => k = r) w w2 := (show Upd (fun k => k = r) w w.drew from (Upd.refl _ w).drew).trans hu
      exact (h0.setCell (p := ⟨r, (i + m) * 2, none⟩) (.inl rfl) _).setCell (p := ⟨r, (i + m) * 2 + 1, none⟩) (.inl rfl) _⟩
  have hone := cardE.cells_one (xs.drop (i + 1))
  have hne2 : ¬ c = i + m := by omega
  have hm5 : i + 1 + m ≤ 512 := by omega
  have b1 : i ≤ c := by omega
  have b2 : (i : Int) ≤ (i : Int) + 1 := by omega
  have b3 : i + 1 ≤ i + 1 + m := by omega
  have b4 : i + m ≤ c := by omega
  have b5 : i + 1 + m - (i + 1) = m := by omega
  have b6 : i + 1 + m - (i + m) = 1 := by omega
  have b7 : (i : Int) + 1 ≤ (i : Int) + 1 + (m : Int) := by omega
  have b8 : (i : Int) + (m : Int) ≤ (i : Int) + 1 + (m : Int) := by omega
  have b9 : i + m ≤ i + 1 + m := by omega
  have b10 : (0 : Int) ≤ (i : Int) + 1 := by omega
  have b11 : (0 : Int) ≤ (i : Int) := by omega
  have b12 : (0 : Int) ≤ (i : Int) + (m : Int) := by omega
  have b13 : (i : Int) + 1 + (m : Int) ≤ (c : Int) := by omega
  generalize cardE.cells (xs.take i) = T at *
  generalize cardE.cells (xs.drop (i + 1)) = D at *
  clear h hown0 her hel
  by_cases hce : c = i + 1
  · obtain rfl : m = 0 := by omega
    obtain rfl : D = [] := List.eq_nil_of_length_eq_zero (by omega)
    subst hce
    have hz1' : i + 1 - i = 1 := by omega
    simp only [Nat.add_zero, List.append_nil, hz1'] at HFIN
    go_enter Try.func83, Try.ntmps83
    go_wp2_with fail
    go_region_law ((refine step_appS (by rfl) (.tmp 22) (.tmp 25) 22 (by rfl) base 38 i0 2 Try.underlying22 hi0 hz1 r i _ T (by rfl) hown1 _ 0 _ [] (by rfl) (by rfl) (by intro j u hu; simp at hu) (by intro u hu; simp at hu) (by omega) ?_; intro w2 ho2' hu2; have ho2 : OwnK 2 w2 base 38 (.slice (some ⟨r, 0, none⟩) i (i + 1)) i T := (by simpa only [Nat.add_zero, List.append_nil] using ho2'); have hfin := HFIN.out w2 ho2 hu2; have hcl := hfin.1; have HF2 := kept hfin.2; clear hfin ho2 hu2))
    all_goals
      go_wp2
      go_ret
      exact ⟨rfl, HF2.out⟩
  · go_enter Try.func83, Try.ntmps83
    go_wp2_with fail
    go_region_law ((refine step_appS (by rfl) (.tmp 22) (.tmp 25) 22 (by rfl) base 38 i0 2 Try.underlying22 hi0 hz1 r i _ T (by rfl) hown1 _ m _ D (by rfl) hln hnews hone (by omega) ?_; intro w2 ho2 hu2; have hfin := HFIN.out w2 ho2 hu2; have hcl := hfin.1; have HF2 := kept hfin.2; clear hfin ho2 hu2))
    all_goals
      go_wp2
      go_ret
      exact ⟨rfl, HF2.out⟩
end Go.Proofs.Ytnmcclkpgbdenaa.Chg

/- Arguments that are lists of cards, opened. -/
namespace Go.Proofs.Ytnmcclkpgbdenaa.Opens
open Go.ChangeShapes Go.WideShapes Go.ChangeAt Go.RowKit Go.Deep Go.Joins Go.Proofs.Ytnmcclkpgbdenaa.Mem Go.Proofs.Ytnmcclkpgbdenaa.Card

/-- what the texts of a line are bound by -/
def LTx (z : LineM) : Prop := z.t.size ≤ 140737488355328 ∧ ∀ y ∈ z.m, y.size ≤ 9223372036854775807
section
variable {H : Type} {enc : TypeId × Value → H} {W : World}
theorem some_line : Some_ enc Try.prog W 41 LineM.cells (fun z => z.Ok W W.heap.size ∧ LTx z) (fun _ => 1) := fun n cs x h hf => by
  obtain ⟨z, h1, h2, h3⟩ := in_line Try.underlying41 (by kernel_rfl) (by kernel_rfl) Try.underlying5 Try.underlying9 Try.underlying39 Try.underlying9 (by kernel_rfl) (by kernel_rfl) h hf
  exact ⟨z, h1, ⟨h2, h3⟩, bulk_one x.1⟩
theorem some_card : Some_ enc Try.prog W 38 CardM.cells (fun y => y.Ok W W.heap.size ∧ ∀ z ∈ y.ls, LTx z) (fun _ => 1) :=
  Some_.iso (fun z : Nat × SliceM LineM => (⟨z.1, z.2.A, z.2.l, z.2.c⟩ : CardM)) (fun _ => rfl)
    (fun z h => ⟨⟨h.1, ⟨h.2.1, fun y hy => (h.2.2.1 y hy).1⟩, h.2.2.2.1, by
      have h1 := h.2.2.2.2
      have h2 := h.2.2.2.1
      have h3 : Try.prog.bytesOf 41 = 48 := by kernel_rfl
      rw [h3] at h1
      unfold reachBytes at h1
      show z.2.l.length ≤ _
      omega⟩, fun y hy => (h.2.2.1 y hy).2⟩) (fun z => by omega)
    (struct_2 Try.underlying38 (by kernel_rfl) (by kernel_rfl) (one_u64 Try.underlying35) (one_slice lineE (b := fun _ => 1) Try.underlying36 (by kernel_rfl) some_line))
theorem one_cards : One enc Try.prog W 22 (SliceM.val (α := CardM)) (fun z => Chg.cardE.Rd W W.heap.size z.A z.l ∧ (∀ y ∈ z.l, y.Ok W W.heap.size ∧ ∀ u ∈ y.ls, LTx u) ∧ z.l.length ≤ z.c ∧ z.c * Try.prog.bytesOf 38 ≤ reachBytes) (fun z => (z.l.map fun _ => 1).sum + 1) :=
  haveI : Inhabited CardM := ⟨⟨0, none, [], 0⟩⟩
  one_slice Chg.cardE (b := fun _ => 1) Try.underlying22 (by kernel_rfl) some_card
set_option maxRecDepth 100000 in
theorem arg_cards {v : Value} {d : DataW H} {p : List MemPlace} {ts : List TypeId} {ds : List (DataW H)} {j b0 : Nat} (hv : Value.okWide Try.prog W .any b0 22 v) (h : DataW.Trod enc Try.prog W 0 (fun _ => true) true 22 v d p)
    (hw : (DataW.weightsEach Try.prog ts ds).all (· ≤ reachBytes) = true) (hts : ts[j]? = some 22) (hds : ds[j]? = some d) :
    ∃ A l c, v = .slice A (List.length l) c ∧ RdCards W W.heap.size A l ∧ l.length ≤ c ∧ c ≤ 4398046511104 ∧ ∀ y ∈ l, ∀ u ∈ y.ls, LTx u := by
  obtain ⟨⟨A, l, c⟩, rfl, ⟨h1, h2, h3, h4⟩, -⟩ := one_cards.arg (slice_cells Try.underlying22 hv) h hw hts hds
  have h5 : Try.prog.bytesOf 38 = 32 := by kernel_rfl
  rw [h5] at h4
  unfold reachBytes at h4
  dsimp only at h1 h2 h3 h4
  exact ⟨A, l, c, rfl, ⟨h1, fun y hy => (h2 y hy).1⟩, h3, by omega, fun y hy => (h2 y hy).2⟩
end
end Go.Proofs.Ytnmcclkpgbdenaa.Opens

/- Contracts of slices.Sort, slices.Compact on texts off the kit's shelf, laid at this translation (written by the kit's lay-plain.mjs, turned into a template by tools/mklaid.py). -/
namespace Go.Proofs.Ytnmcclkpgbdenaa.LaidS
open Go.Shelf Go.RowKit Go.Lib Go.Sort
def lays190_ren : Go.Shelf.Ren := ⟨fun | 190 => 53 | 125 => 88 | 258 => 87 | 128 => 124 | 129 => 125 | 302 => 115 | 303 => 116 | 304 => 117 | 305 => 118 | 306 => 119 | 307 => 120 | 308 => 121 | 309 => 122 | 310 => 123 | 333 => 135 | 329 => 136 | 330 => 137 | 334 => 138 | 335 => 139 | 336 => 140 | 344 => 155 | n => n, fun | 31 => 39 | 9 => 9 | 3 => 3 | 46 => 131 | 0 => 0 | 51 => 160 | 53 => 35 | 4 => 4 | 183 => 153 | 182 => 152 | 131 => 123 | 5 => 5 | 218 => 171 | 222 => 175 | 228 => 185 | 229 => 186 | n => n, fun | n => n⟩
theorem lays190 : Go.Proofs.Lays.n190 Try.prog lays190_ren := {
  mixed := by kernel_rfl
  f125 := Try.func88.trans (congrArg some (by kernel_rfl))
  f128 := Try.func124.trans (congrArg some (by kernel_rfl))
  f129 := Try.func125.trans (congrArg some (by kernel_rfl))
  f190 := Try.func53.trans (congrArg some (by kernel_rfl))
  f258 := Try.func87.trans (congrArg some (by kernel_rfl))
  f302 := Try.func115.trans (congrArg some (by kernel_rfl))
  f303 := Try.func116.trans (congrArg some (by kernel_rfl))
  f304 := Try.func117.trans (congrArg some (by kernel_rfl))
  f305 := Try.func118.trans (congrArg some (by kernel_rfl))
  f306 := Try.func119.trans (congrArg some (by kernel_rfl))
  f307 := Try.func120.trans (congrArg some (by kernel_rfl))
  f308 := Try.func121.trans (congrArg some (by kernel_rfl))
  f309 := Try.func122.trans (congrArg some (by kernel_rfl))
  f310 := Try.func123.trans (congrArg some (by kernel_rfl))
  f329 := Try.func136.trans (congrArg some (by kernel_rfl))
  f330 := Try.func137.trans (congrArg some (by kernel_rfl))
  f333 := Try.func135.trans (congrArg some (by kernel_rfl))
  f334 := Try.func138.trans (congrArg some (by kernel_rfl))
  f335 := Try.func139.trans (congrArg some (by kernel_rfl))
  f336 := Try.func140.trans (congrArg some (by kernel_rfl))
  f344 := Try.func155.trans (congrArg some (by kernel_rfl))
  t0 := Try.underlying0
  a0 := Try.isAgg0
  z0 := Try.sizeOf0
  v0 := Try.zeroValue0
  t3 := Try.underlying3
  a3 := Try.isAgg3
  z3 := Try.sizeOf3
  v3 := Try.zeroValue3
  t4 := Try.underlying4
  a4 := Try.isAgg4
  z4 := Try.sizeOf4
  v4 := Try.zeroValue4
  t5 := Try.underlying5
  a5 := Try.isAgg5
  z5 := Try.sizeOf5
  v5 := Try.zeroValue5
  t9 := Try.underlying9
  a9 := Try.isAgg9
  z9 := Try.sizeOf9
  v9 := Try.zeroValue9
  t31 := Try.underlying39
  a31 := Try.isAgg39
  z31 := Try.sizeOf39
  v31 := Try.zeroValue39
  t46 := Try.underlying131
  a46 := Try.isAgg131
  z46 := Try.sizeOf131
  v46 := Try.zeroValue131
  t51 := Try.underlying160
  a51 := Try.isAgg160
  z51 := Try.sizeOf160
  v51 := Try.zeroValue160
  t53 := Try.underlying35
  a53 := Try.isAgg35
  z53 := Try.sizeOf35
  v53 := Try.zeroValue35
  t131 := Try.underlying123
  a131 := Try.isAgg123
  z131 := Try.sizeOf123
  v131 := Try.zeroValue123
  t182 := Try.underlying152
  a182 := Try.isAgg152
  z182 := Try.sizeOf152
  v182 := Try.zeroValue152
  t183 := Try.underlying153
  a183 := Try.isAgg153
  z183 := Try.sizeOf153
  v183 := Try.zeroValue153
  t218 := Try.underlying171
  a218 := Try.isAgg171
  z218 := Try.sizeOf171
  v218 := Try.zeroValue171
  t222 := Try.underlying175
  a222 := Try.isAgg175
  z222 := Try.sizeOf175
  v222 := Try.zeroValue175
  t228 := Try.underlying185
  a228 := Try.isAgg185
  z228 := Try.sizeOf185
  v228 := Try.zeroValue185
  t229 := Try.underlying186
  a229 := Try.isAgg186
  z229 := Try.sizeOf186
  v229 := Try.zeroValue186 }
def lays194_ren : Go.Shelf.Ren := ⟨fun | 194 => 54 | n => n, fun | 31 => 39 | 9 => 9 | 3 => 3 | 4 => 4 | 0 => 0 | n => n, fun | n => n⟩
theorem lays194 : Go.Proofs.Lays.n194 Try.prog lays194_ren := {
  mixed := by kernel_rfl
  f194 := Try.func54.trans (congrArg some (by kernel_rfl))
  t0 := Try.underlying0
  a0 := Try.isAgg0
  z0 := Try.sizeOf0
  v0 := Try.zeroValue0
  t3 := Try.underlying3
  a3 := Try.isAgg3
  z3 := Try.sizeOf3
  v3 := Try.zeroValue3
  t4 := Try.underlying4
  a4 := Try.isAgg4
  z4 := Try.sizeOf4
  v4 := Try.zeroValue4
  t9 := Try.underlying9
  a9 := Try.isAgg9
  z9 := Try.sizeOf9
  v9 := Try.zeroValue9
  t31 := Try.underlying39
  a31 := Try.isAgg39
  z31 := Try.sizeOf39
  v31 := Try.zeroValue39 }
open Go.Proofs.Ytnmcclkpgbdenaa.Mem Go.Proofs.Ytnmcclkpgbdenaa.Card

/-- a text's bytes -/
def tb (s : ByteArray) : List UInt8 := s.data.toList
def ofb (l : List UInt8) : ByteArray := ⟨l.toArray⟩
theorem ofb_tb (s : ByteArray) : ofb (tb s) = s := by obtain ⟨⟨x⟩⟩ := s; rfl
theorem tb_ofb (l : List UInt8) : tb (ofb l) = l := by simp [tb, ofb]
theorem SB_enc (l : List ByteArray) : SB l = (l.map tb).map encStr := (map_encStr l).symm
theorem enc_SB (l : List (List UInt8)) : l.map encStr = SB (l.map ofb) := by
  unfold SB
  rw [List.map_map]
  rfl
/-- sorted, as the library does -/
def sortT (l : List ByteArray) : List ByteArray := ((l.map tb).mergeSort fun x y => decide (x ≤ y)).map ofb
def compT (l : List ByteArray) : List ByteArray := (Lib.compact (l.map tb)).map ofb
theorem sortT_length (l : List ByteArray) : (sortT l).length = l.length := by simp [sortT]
theorem compact_le {α : Type} [Inhabited α] [DecidableEq α] (l : List α) : (Lib.compact l).length ≤ l.length := by
  unfold Lib.compact compactUpTo
  rw [List.length_map]
  refine Nat.le_trans (List.length_filter_le _ _) ?_
  simp
/-- slices.Sort of a row of the call's own -/
theorem sort_own (base : Nat) (A : Option Addr) (c : Nat) (l : List ByteArray) (w : World) (h : Own w base 9 (.slice A l.length c) (SB l)) (hsz : l.length < 4611686018427387904) :
    Calls Try.prog 53 #[.slice A l.length c] w fun e w' => e = .returned (.tuple #[]) ∧ Own w' base 9 (.slice A l.length c) (SB (sortT l)) ∧ Below base w w' := by
  have hn : (SB l).length = l.length := SB_length l
  have hm : (l.map tb).length = l.length := List.length_map ..
  have h0 : w.ownsRow base 9 1 (.slice A l.length c) l.length ((l.map tb).map encStr) := by unfold Own at h; rw [hn, SB_enc] at h; exact h
  rcases h0.2 with ⟨h1, h2⟩ | ⟨g, cap, cur, h1, hbase, hb, hc1, hc2, hc3, hc4⟩
  · have hl : l = [] := List.eq_nil_of_length_eq_zero h2
    subst hl
    injection h1 with e1 _ e3
    subst e1
    refine (Any.slices_Sort_string_none lays190 none c w).mono ?_
    rintro e w' ⟨rfl, rfl⟩
    refine ⟨rfl, ?_, Below.refl _ _⟩
    have e : sortT [] = [] := by simp [sortT]
    rw [e]
    exact h
  · injection h1 with e1 _ e3
    subst e1 e3
    have hH : Holds encStr w g 0 (l.map tb).toArray := holds_of_block hb (by rw [hm]; simpa using hc4)
    have hC := Any.slices_Sort_string lays190 g 0 c (l.map tb) w hH (Array.getElem?_eq_some_iff.1 hb).1 (by rw [hm]; exact hsz)
    rw [hm] at hC
    refine hC.mono ?_
    rintro e w' ⟨rfl, n, os, rfl⟩
    have ho := ownsRow_sorted (os := os) (n := n) (ss := l.map tb) (ts := (l.map tb).mergeSort fun x y => decide (x ≤ y)) (by simp) hbase hb (by rw [hm]; exact hc1) hc2 hc3
    refine ⟨rfl, ?_, below_grown h (grownBy_sorted _) ?_⟩
    · unfold Own
      rw [SB_length, sortT_length]
      unfold sortT
      rw [← enc_SB]
      rw [hm] at ho
      exact ho
    · exact Nat.le_of_lt (Nat.lt_of_le_of_lt hbase (Array.getElem?_eq_some_iff.1 hb).1)
theorem compact_own (base : Nat) (A : Option Addr) (c : Nat) (l : List ByteArray) (w : World) (h : Own w base 9 (.slice A l.length c) (SB l)) (hsz : l.length < 4611686018427387904) :
    Calls Try.prog 54 #[.slice A l.length c] w fun e w' => e = .returned (.slice A (compT l).length c) ∧ Own w' base 9 (.slice A (compT l).length c) (SB (compT l)) ∧ Below base w w' := by
  have hn : (SB l).length = l.length := SB_length l
  have hm : (l.map tb).length = l.length := List.length_map ..
  have h0 : w.ownsRow base 9 1 (.slice A l.length c) l.length ((l.map tb).map encStr) := by unfold Own at h; rw [hn, SB_enc] at h; exact h
  rcases h0.2 with ⟨h1, h2⟩ | ⟨g, cap, cur, h1, hbase, hb, hc1, hc2, hc3, hc4⟩
  · have hl : l = [] := List.eq_nil_of_length_eq_zero h2
    subst hl
    injection h1 with e1 _ e3
    subst e1
    refine (Any.slices_Compact_string_empty lays194 none c w).mono ?_
    rintro e w' ⟨rfl, rfl⟩
    have e : compT [] = [] := by simp [compT, Lib.compact, compactUpTo]
    rw [e]
    exact ⟨rfl, h, Below.refl _ _⟩
  · injection h1 with e1 _ e3
    subst e1 e3
    have hH : Holds encStr w g 0 (l.map tb).toArray := holds_of_block hb (by rw [hm]; simpa using hc4)
    have hC := Any.slices_Compact_string lays194 g 0 c (l.map tb) w hH (by rw [hm]; omega) (by rw [hm]; exact hc1)
    rw [hm] at hC
    refine hC.mono ?_
    have hle : (Lib.compact (l.map tb)).length ≤ l.length := Nat.le_trans (compact_le (l.map tb)) (Nat.le_of_eq hm)
    have hk : (compT l).length = (Lib.compact (l.map tb)).length := List.length_map ..
    rintro e w' ⟨rfl, q, rfl⟩
    have ho := ownsRow_putRow (q := q) (k := (Lib.compact (l.map tb)).length) h0 (ys := Lib.compact (l.map tb) ++ List.replicate (l.length - (Lib.compact (l.map tb)).length) []) (by rw [List.length_append, List.length_replicate]; omega) hle
    refine ⟨by rw [hk], ?_, below_putRow (Below.refl _ _) hbase⟩
    unfold Own
    rw [SB_length, hk]
    unfold compT
    rw [← enc_SB]
    rw [List.take_left] at ho
    exact ho
end Go.Proofs.Ytnmcclkpgbdenaa.LaidS
