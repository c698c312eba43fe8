/- Layer 36 (net): slices.Delete of one message; Take. -/
import Derived.Test.YtpckfnafcmifpaaNetSend
import Derived.Deep.DeepAppendRoom
import Derived.Lib.SliceRun
namespace Go.Proofs.Ytpckfnafcmifpaa.Net
open Go.RowKit Go.Proofs.Ytpckfnafcmifpaa.Mem

theorem ownK_beyond {size : Nat} {w : World} {base : Nat} {e : TypeId} {r n c : Nat} {xs : List Value} (h : OwnK size w base e (.slice (some ⟨r, 0, none⟩) n c) n xs) {j : Nat} (hj : n * size ≤ j) (v : Value) : OwnK size (w.setCell ⟨r, j, none⟩ v) base e (.slice (some ⟨r, 0, none⟩) n c) n xs := by
  rcases h.2 with ⟨h0, _⟩ | ⟨g, cap, cur, hv, hbg, hg, hnc, hcm, hcs, htake⟩
  · cases h0
  · cases hv
    have hk : Blk w r cur.toList e := by show w.heap[r]? = _; simpa using hg
    refine ⟨h.1, .inr ⟨r, c, (cur.toList.set j v).toArray, rfl, hbg, hk.set j v, hnc, hcm, by simpa using hcs, ?_⟩⟩
    rw [← htake]
    show ((cur.toList.set j v).toArray.toList).take _ = _
    simp only [List.take_set]
    rw [List.set_eq_of_length_le]
    rw [List.length_take]
    omega
theorem ownK_cells {size : Nat} {w : World} {base : Nat} {e : TypeId} {r n c : Nat} {xs : List Value} (h : OwnK size w base e (.slice (some ⟨r, 0, none⟩) n c) n xs) {j : Nat} (hj : j < c * size) : (w.cell? ⟨r, j, none⟩).isSome = true := by
  rcases h.2 with ⟨h0, _⟩ | ⟨g, cap, cur, hv, hbg, hg, hnc, hcm, hcs, htake⟩
  · cases h0
  · cases hv
    have hk : Blk w r cur.toList e := by show w.heap[r]? = _; simpa using hg
    have hj2 : j < cur.toList.length := by simp [hcs]; exact hj
    rw [hk.cell (List.getElem?_eq_getElem hj2)]
    rfl
theorem clear_one (W : World) (r o c : Nat) (hc : ∀ j, j < 3 → (W.cell? ⟨r, o + j, none⟩).isSome = true) (hf : ∀ j, j < 3 → W.frozen? ⟨r, o + j, none⟩ = false) (ty : TypeId) :
    (Builtin.clear_ #[78] ty #[.slice (some ⟨r, o, none⟩) 1 c]).run Try.prog W = .ok (.tuple #[]) (((W.setCell ⟨r, o, none⟩ (.int .i64 0)).setCell ⟨r, o + 1, none⟩ (.slice none 0 0)).setCell ⟨r, o + 1 + 1, none⟩ (.bool false)) := by
  have hst := run_storeCells_cells (P := Try.prog) r o [.int .i64 0, .slice none 0 0, .bool false] 0 W (by simpa using hc) (by simpa using hf) (by intro v hv; simp at hv; rcases hv with rfl | rfl | rfl <;> rfl)
  have hv : (zeroValue 98).run Try.prog W = .ok (.agg #[.int .i64 0, .slice none 0 0, .bool false]) W := by kernel_rfl
  have hz : (Builtin.zeroCells (Value.agg #[.int .i64 0, .slice none 0 0, .bool false]).cells 1).toList = [.int .i64 0, .slice none 0 0, .bool false] := by kernel_rfl
  simp only [Nat.add_zero] at hst
  simp [Builtin.clear_, run_underlying Try.underlying78, hv, hz, hst, World.setCells]
theorem step_appS {P : Program} {w : World} {ops : Array Oper} {o : Oper} {a : Act} {K : Act → World → Prop} {Q : Exit → Act → World → Prop} {F : Prop} (hgd : o.guard = none) (s x : Operand) (t : TypeId)
    (ho : o.op = .call { callee := .builtin .append, args := #[s, x], argTypes := #[t, t] })
    (base : Nat) (e : TypeId) (i : TypeInfo) (size : Nat) (ht : P.underlying t = some (.slice e)) (hi : P.info? e = some i) (hsize : i.size = size)
    (g n cap : Nat) (xs : List Value) (hs : a.eval s = .slice (some ⟨g, 0, none⟩) n cap) (hown : OwnK size w base e (.slice (some ⟨g, 0, none⟩) n cap) n xs)
    (ad : Addr) (m c : Nat) (news : List Value) (hx : a.eval x = .slice (some ad) m c) (hl : news.length = m * size) (hnews : ∀ j u, news[j]? = some u → w.cell? (ad.add j) = some u) (h1 : ∀ u ∈ news, u.oneCell' = true)
    (hroom : n + m ≤ cap)
    (h : ∀ w', OwnK size w' base e (.slice (some ⟨g, 0, none⟩) (n + m) cap) (n + m) (xs ++ news) → Upd (fun k => k = g) w w' → K (a.put o.dst (.slice (some ⟨g, 0, none⟩) (n + m) cap)) w') :
    if Region.wanted o (yielded ops a.tmps) = true then Oper.wp P o a w K Q else F := by
  rw [if_pos (by simp [Region.wanted, hgd])]
  exact wp_append_own_spare w s x t ho base e i size ht hi hsize g n cap xs hs hown ad m c news hx hl hnews h1 hroom fun w' h2 h3 => h w' h2 ((Upd.refl _ w).grown h3 fun k hk => .inl (Option.some.inj hk).symm)
theorem ownK_take {size : Nat} {w : World} {base : Nat} {e : TypeId} {r n c i : Nat} {xs : List Value} (h : OwnK size w base e (.slice (some ⟨r, 0, none⟩) n c) n xs) (hi : i ≤ n) : OwnK size w base e (.slice (some ⟨r, 0, none⟩) i c) i (xs.take (i * size)) := by
  rcases h.2 with ⟨h0, _⟩ | ⟨g, cap, cur, hv, hbg, hg, hnc, hcm, hcs, htake⟩
  · cases h0
  · cases hv
    have hle : i * size ≤ n * size := Nat.mul_le_mul_right _ hi
    refine ⟨by rw [List.length_take, h.1]; omega, .inr ⟨r, c, cur, rfl, hbg, hg, by omega, hcm, hcs, ?_⟩⟩
    rw [← htake, List.take_take, Nat.min_eq_left hle]
set_option maxRecDepth 100000 in
set_option maxHeartbeats 4000000 in
theorem del_at (r i m c : Nat) (xs : List OneM) (w : World) (hN : xs.length = i + 1 + m) (h : oneE.Own w 0 98 (.slice (some ⟨r, 0, none⟩) (i + 1 + m) c) xs) (hc5 : xs.length ≤ 512) :
    Calls Try.prog 47 #[.slice (some ⟨r, 0, none⟩) (i + 1 + m) c, .int .i64 (i : Int), .int .i64 ((i : Int) + 1)] w fun e w' => e = .returned (.slice (some ⟨r, 0, none⟩) (i + m) c) ∧ oneE.Own w' 0 98 (.slice (some ⟨r, 0, none⟩) (i + m) c) (xs.eraseIdx i) ∧ Upd (fun k => k = r) w w' := by
  obtain ⟨i0, hi0, hz0, hz1, hz2⟩ := info_parts one_info
  have hcap : i + 1 + m ≤ c := by have := h.cap; omega
  have hcm : c ≤ 9223372036854775807 := by
    obtain ⟨A, c', he, _, h2, _⟩ := OwnK.form h
    injection he with _ _ e3
    subst e3
    exact h2
  have hown0 : OwnK 3 w 0 98 (.slice (some ⟨r, 0, none⟩) (i + 1 + m) c) (i + 1 + m) (oneE.cells xs) := by
    have : OwnK oneE.k w 0 98 (.slice (some ⟨r, 0, none⟩) (i + 1 + m) c) xs.length (oneE.cells xs) := h
    rwa [hN] at this
  have hown1 : OwnK 3 w.drew 0 98 (.slice (some ⟨r, 0, none⟩) i c) i (oneE.cells (xs.take i)) := by
    have h1 := ownK_take (i := i) hown0 (by omega)
    rw [← oneE.cells_take]
    exact h1
  have hnews : ∀ j u, (oneE.cells (xs.drop (i + 1)))[j]? = some u → w.drew.cell? ((⟨r, (i + 1) * 3, none⟩ : Addr).add j) = some u := fun j u hu => by
    rw [← oneE.cells_drop, List.getElem?_drop] at hu
    obtain ⟨b, o, e, -, hc2⟩ := h.rd (by intro e; rw [e] at hu; simp at hu)
    injection e with e
    injection e with e1 e2
    subst e1 e2
    rw [add_plain]
    have := hc2 _ u hu
    rwa [Nat.zero_add] at this
  have hln : (oneE.cells (xs.drop (i + 1))).length = m * 3 := by rw [oneE.cells_length, List.length_drop, hN, show i + 1 + m - (i + 1) = m from by omega]; rfl
  have her : xs.eraseIdx i = xs.take i ++ xs.drop (i + 1) := List.eraseIdx_eq_take_drop_succ xs i
  have hel : (xs.eraseIdx i).length = i + m := by rw [her, List.length_append, List.length_take, List.length_drop, hN]; omega
  have HER := kept her
  have HEL := kept hel
  have HCE : Kept (oneE.cells (xs.take i) ++ oneE.cells (xs.drop (i + 1)) = oneE.cells (xs.eraseIdx i)) := ⟨by rw [← oneE.cells_append, ← her]⟩
  have HFIN : Kept (∀ w2, OwnK 3 w2 0 98 (.slice (some ⟨r, 0, none⟩) (i + m) c) (i + m) (oneE.cells (xs.take i) ++ oneE.cells (xs.drop (i + 1))) → Upd (fun k => k = r) w.drew w2 →
      (∀ ty, (Builtin.clear_ #[78] ty #[.slice (some ⟨r, (i + m) * 3, none⟩) 1 (c - (i + m))]).run Try.prog w2 = .ok (.tuple #[]) (((w2.setCell ⟨r, (i + m) * 3, none⟩ (.int .i64 0)).setCell ⟨r, (i + m) * 3 + 1, none⟩ (.slice none 0 0)).setCell ⟨r, (i + m) * 3 + 1 + 1, none⟩ (.bool false))) ∧
      oneE.Own (((w2.setCell ⟨r, (i + m) * 3, none⟩ (.int .i64 0)).setCell ⟨r, (i + m) * 3 + 1, none⟩ (.slice none 0 0)).setCell ⟨r, (i + m) * 3 + 1 + 1, none⟩ (.bool false)) 0 98 (.slice (some ⟨r, 0, none⟩) (i + m) c) (xs.eraseIdx i) ∧
      Upd (fun k => k = r) w (((w2.setCell ⟨r, (i + m) * 3, none⟩ (.int .i64 0)).setCell ⟨r, (i + m) * 3 + 1, none⟩ (.slice none 0 0)).setCell ⟨r, (i + m) * 3 + 1 + 1, none⟩ (.bool false))) := ⟨fun w2 ho hu => by
    refine ⟨clear_one w2 r ((i + m) * 3) (c - (i + m)) (fun j hj => ownK_cells ho (by omega)) (fun j hj => World.ownsRow.frozenAt ho _), ?_, ?_⟩
    · have h1 := ownK_beyond ho (j := (i + m) * 3) (Nat.le_refl _) (.int .i64 0)
      have h2 := ownK_beyond h1 (j := (i + m) * 3 + 1) (by omega) (.slice none 0 0)
      have h3 := ownK_beyond h2 (j := (i + m) * 3 + 1 + 1) (by omega) (.bool false)
      rw [HCE.out] at h3
      have h4 : OwnK oneE.k (((w2.setCell ⟨r, (i + m) * 3, none⟩ (.int .i64 0)).setCell ⟨r, (i + m) * 3 + 1, none⟩ (.slice none 0 0)).setCell ⟨r, (i + m) * 3 + 1 + 1, none⟩ (.bool false)) 0 98 (.slice (some ⟨r, 0, none⟩) (i + m) c) (xs.eraseIdx i).length (oneE.cells (xs.eraseIdx i)) := by
        rw [HEL.out]; exact h3
      exact h4
    · have h0 : Upd (fun k => k = r) w w2 := (show Upd (fun k => k = r) w w.drew from (Upd.refl _ w).drew).trans hu
      exact ((h0.setCell (p := ⟨r, (i + m) * 3, none⟩) (.inl rfl) _).setCell (p := ⟨r, (i + m) * 3 + 1, none⟩) (.inl rfl) _).setCell (p := ⟨r, (i + m) * 3 + 1 + 1, none⟩) (.inl rfl) _⟩
  have hone := oneE.cells_one (xs.drop (i + 1))
  have hne2 : ¬ c = i + m := by omega
  have hm5 : i + 1 + m ≤ 512 := by omega
  have b1 : i ≤ c := by omega
  have b2 : (i : Int) ≤ (i : Int) + 1 := by omega
  have b3 : i + 1 ≤ i + 1 + m := by omega
  have b4 : i + m ≤ c := by omega
  have b5 : i + 1 + m - (i + 1) = m := by omega
  have b6 : i + 1 + m - (i + m) = 1 := by omega
  have b7 : (i : Int) + 1 ≤ (i : Int) + 1 + (m : Int) := by omega
  have b8 : (i : Int) + (m : Int) ≤ (i : Int) + 1 + (m : Int) := by omega
  have b9 : i + m ≤ i + 1 + m := by omega
  have b10 : (0 : Int) ≤ (i : Int) + 1 := by omega
  have b11 : (0 : Int) ≤ (i : Int) := by omega
  have b12 : (0 : Int) ≤ (i : Int) + (m : Int) := by omega
  have b13 : (i : Int) + 1 + (m : Int) ≤ (c : Int) := by omega
  generalize oneE.cells (xs.take i) = T at *
  generalize oneE.cells (xs.drop (i + 1)) = D at *
  clear h hown0 her hel
  by_cases hce : c = i + 1
  · obtain rfl : m = 0 := by omega
    obtain rfl : D = [] := List.eq_nil_of_length_eq_zero (by omega)
    subst hce
    have hz1' : i + 1 - i = 1 := by omega
    simp only [Nat.add_zero, List.append_nil, hz1'] at HFIN
    go_enter Try.func47, Try.ntmps47
    go_wp2_with fail
    go_region_law ((refine step_appS (by rfl) (.tmp 22) (.tmp 25) 78 (by rfl) 0 98 i0 3 Try.underlying78 hi0 hz1 r i _ T (by rfl) hown1 _ 0 _ [] (by rfl) (by rfl) (by intro j u hu; simp at hu) (by intro u hu; simp at hu) (by omega) ?_; intro w2 ho2' hu2; have ho2 : OwnK 3 w2 0 98 (.slice (some ⟨r, 0, none⟩) i (i + 1)) i T := (by simpa only [Nat.add_zero, List.append_nil] using ho2'); have hfin := HFIN.out w2 ho2 hu2; have hcl := hfin.1; have HF2 := kept hfin.2; clear hfin ho2 hu2))
    all_goals
      go_wp2
      go_ret
      exact ⟨rfl, HF2.out⟩
  · go_enter Try.func47, Try.ntmps47
    go_wp2_with fail
    go_region_law ((refine step_appS (by rfl) (.tmp 22) (.tmp 25) 78 (by rfl) 0 98 i0 3 Try.underlying78 hi0 hz1 r i _ T (by rfl) hown1 _ m _ D (by rfl) hln hnews hone (by omega) ?_; intro w2 ho2 hu2; have hfin := HFIN.out w2 ho2 hu2; have hcl := hfin.1; have HF2 := kept hfin.2; clear hfin ho2 hu2))
    all_goals
      go_wp2
      go_ret
      exact ⟨rfl, HF2.out⟩
end Go.Proofs.Ytpckfnafcmifpaa.Net
