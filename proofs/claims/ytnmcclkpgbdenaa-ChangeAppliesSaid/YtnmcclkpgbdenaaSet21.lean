import Derived.Test.YtnmcclkpgbdenaaSet0
import Derived.Laws.IdiomCopy
import Derived.Test.YtnmcclkpgbdenaaMemK
import Derived.Test.YtnmcclkpgbdenaaChgDelL
import Derived.Test.YtnmcclkpgbdenaaSet13
import Derived.Lib.Overlaps
import Derived.Lib.AppendZerosOnto
/- The builtin copy over rows of elements of k cells each, over any program. -/
namespace Go.Proofs.Ytnmcclkpgbdenaa.Mem
open Go.RowKit

theorem run_copy_k {P : Program} (w : World) (dT sT ty elem : TypeId) (k b o dLen dCap : Nat) (a : Addr) (sLen sCap : Nat) (cs : List Value)
    (hu : P.underlying dT = some (.slice elem)) (hs : (P.info? elem).map (·.size) = some k) (hn : cs.length = Nat.min sLen dLen * k)
    (hsrc : ∀ j v, cs[j]? = some v → w.cell? (a.add j) = some v) (hc : ∀ j, j < cs.length → (w.cell? ⟨b, o + j, none⟩).isSome = true) (hf : ∀ j, j < cs.length → w.frozen? ⟨b, o + j, none⟩ = false) (h1 : ∀ v ∈ cs, v.oneCell' = true) :
    (Builtin.copy_ #[dT, sT] ty #[.slice (some ⟨b, o, none⟩) dLen dCap, .slice (some a) sLen sCap]).run P w = .ok (goInt (Nat.min sLen dLen)) (w.setCells b o cs) := by
  have hl := run_loadCells_list (P := P) w a cs hsrc
  have hst := run_storeCells_cells (P := P) b o cs 0 w (by simpa using hc) (by simpa using hf) h1
  cases hq : P.info? elem with
  | none => simp [hq] at hs
  | some i =>
    have hi : i.size = k := by simpa [hq] using hs
    rw [hn] at hl
    simp [Builtin.copy_, run_underlying hu, Builtin.lenOf, Builtin.firstCells, sizeOf, typeInfo, hq, hi, hl, hst]
end Go.Proofs.Ytnmcclkpgbdenaa.Mem

/- A row of the call's own takes one element more in its midst: the cells, over any program. -/
namespace Go.Proofs.Ytnmcclkpgbdenaa.Mem
open Go.RowKit

theorem set_take_snoc {α : Type} {l : List α} {o : Nat} (h : o < l.length) (v : α) : (l.set o v).take (o + 1) = l.take o ++ [v] := by
  rw [List.take_succ_eq_append_getElem (by rw [List.length_set]; exact h), List.take_set_of_le (Nat.le_refl o)]
  simp
theorem blk_setCells {r : Nat} {t : TypeId} : ∀ (vs : List Value) (o : Nat) (w : World) (l : List Value), Blk w r l t → o + vs.length ≤ l.length → Blk (w.setCells r o vs) r (l.take o ++ vs ++ l.drop (o + vs.length)) t
  | [], o, w, l, h, _ => by
    rw [World.setCells]
    simpa using h
  | v :: vs, o, w, l, h, hl => by
    rw [World.setCells]
    have hlt : o < l.length := by simp at hl; omega
    have h1 := blk_setCells vs (o + 1) _ _ (h.set o v) (by rw [List.length_set]; simp at hl; omega)
    rw [set_take_snoc hlt, List.drop_set_of_lt (by omega)] at h1
    have e : l.take o ++ v :: vs ++ l.drop (o + (v :: vs).length) = l.take o ++ [v] ++ vs ++ l.drop (o + 1 + vs.length) := by
      rw [List.length_cons, show o + (vs.length + 1) = o + 1 + vs.length from by omega]
      simp
    rw [e]
    exact h1
/-- all behind place i goes one on, and an element is laid at place i -/
theorem ownK_insert {size : Nat} {w : World} {base : Nat} {e : TypeId} {r n c i : Nat} {xs vs : List Value} (h : OwnK size w base e (.slice (some ⟨r, 0, none⟩) n c) n xs) (hroom : n + 1 ≤ c) (hi : i ≤ n) (hv : vs.length = size) :
    OwnK size ((w.setCells r ((i + 1) * size) (xs.drop (i * size))).setCells r (i * size) vs) base e (.slice (some ⟨r, 0, none⟩) (n + 1) c) (n + 1) (xs.take (i * size) ++ vs ++ xs.drop (i * size)) := by
  rcases h.2 with ⟨h0, _⟩ | ⟨g, cap, cur, hvv, hbg, hg, hnc, hcm, hcs, htake⟩
  · cases h0
  · cases hvv
    have hk : Blk w r cur.toList e := by show w.heap[r]? = _; simpa using hg
    have hlen : cur.toList.length = c * size := by simpa using hcs
    have hx : xs.length = n * size := h.1
    have h1 : i * size ≤ n * size := Nat.mul_le_mul_right _ hi
    have h2 : (i + 1) * size = i * size + size := Nat.succ_mul i size
    have h3 : (n + 1) * size ≤ c * size := Nat.mul_le_mul_right _ hroom
    have h4 : (n + 1) * size = n * size + size := Nat.succ_mul n size
    have hd : (xs.drop (i * size)).length = n * size - i * size := by rw [List.length_drop, hx]
    have k1 := blk_setCells (xs.drop (i * size)) ((i + 1) * size) w cur.toList hk (by rw [hd, hlen]; omega)
    have k2 := blk_setCells vs (i * size) _ _ k1 (by simp only [List.length_append, List.length_take, List.length_drop, hlen, hv, hd]; omega)
    refine ⟨by simp only [List.length_append, List.length_take, List.length_drop, hx, hv]; omega, .inr ⟨r, c, _, rfl, hbg, k2, hroom, hcm, ?_, ?_⟩⟩
    · simp only [List.size_toArray, List.length_append, List.length_take, List.length_drop, hlen, hv, hd, hx]; omega
    · have hxs : cur.toList.take (i * size) = xs.take (i * size) := by
        rw [← htake, List.take_take, Nat.min_eq_left h1]
      have t1 : ∀ z : List Value, (cur.toList.take ((i + 1) * size) ++ z).take (i * size) = xs.take (i * size) := fun z => by
        rw [List.take_append_of_le_length (by rw [List.length_take, hlen]; omega), List.take_take, Nat.min_eq_left (by omega), hxs]
      have t2 : ∀ z : List Value, (cur.toList.take ((i + 1) * size) ++ z).drop (i * size + vs.length) = z := fun z => by
        rw [hv, ← h2, List.drop_append_of_le_length (by rw [List.length_take, hlen]; omega), List.drop_of_length_le (by rw [List.length_take]; omega), List.nil_append]
      show ((_ : List Value).toArray.toList).take _ = _
      simp only [List.append_assoc]
      rw [t1, t2, ← List.append_assoc, ← List.append_assoc, ← List.append_assoc, List.take_append_of_le_length (by simp only [List.length_append, List.length_take, List.length_drop, hx, hv]; omega), List.take_of_length_le (by simp only [List.length_append, List.length_take, List.length_drop, hx, hv]; omega)]
/-- the same in a new block that holds what stood ahead of place i -/
theorem ownK_grow {size : Nat} {w : World} {base : Nat} {e : TypeId} {h n cap i : Nat} {xs vs L : List Value} (hk : Blk w h L e) (hb : base ≤ h) (hL : L.length = cap * size) (hcm : cap ≤ maxLen) (hroom : n + 1 ≤ cap) (hi : i ≤ n) (hx : xs.length = n * size) (hv : vs.length = size) (hpre : L.take (i * size) = xs.take (i * size)) :
    OwnK size ((w.setCells h (i * size) vs).setCells h ((i + 1) * size) (xs.drop (i * size))) base e (.slice (some ⟨h, 0, none⟩) (n + 1) cap) (n + 1) (xs.take (i * size) ++ vs ++ xs.drop (i * size)) := by
  have h1 : i * size ≤ n * size := Nat.mul_le_mul_right _ hi
  have h2 : (i + 1) * size = i * size + size := Nat.succ_mul i size
  have h3 : (n + 1) * size ≤ cap * size := Nat.mul_le_mul_right _ hroom
  have h4 : (n + 1) * size = n * size + size := Nat.succ_mul n size
  have hd : (xs.drop (i * size)).length = n * size - i * size := by rw [List.length_drop, hx]
  have k1 := blk_setCells vs (i * size) w L hk (by rw [hv, hL]; omega)
  have k2 := blk_setCells (xs.drop (i * size)) ((i + 1) * size) _ _ k1 (by simp only [List.length_append, List.length_take, List.length_drop, hL, hv, hd]; omega)
  refine ⟨by simp only [List.length_append, List.length_take, List.length_drop, hx, hv]; omega, .inr ⟨h, cap, _, rfl, hb, k2, hroom, hcm, ?_, ?_⟩⟩
  · simp only [List.size_toArray, List.length_append, List.length_take, List.length_drop, hL, hv, hd, hx]; omega
  · have t1 : ∀ z : List Value, (L.take (i * size) ++ vs ++ z).take ((i + 1) * size) = xs.take (i * size) ++ vs := fun z => by
      have hl : (L.take (i * size) ++ vs).length = (i + 1) * size := by rw [List.length_append, List.length_take, hL, hv]; omega
      rw [List.take_append_of_le_length (by omega), List.take_of_length_le (by omega), hpre]
    show ((_ : List Value).toArray.toList).take _ = _
    rw [t1, List.take_append_of_le_length (by simp only [List.length_append, List.length_take, List.length_drop, hx, hv]; omega), List.take_of_length_le (by simp only [List.length_append, List.length_take, List.length_drop, hx, hv]; omega)]
end Go.Proofs.Ytnmcclkpgbdenaa.Mem

/- Layer 50 (change): slices.Insert of one line at the end. -/
namespace Go.Proofs.Ytnmcclkpgbdenaa.Chg
open Go.RowKit Go.Proofs.Ytnmcclkpgbdenaa.Mem Go.Proofs.Ytnmcclkpgbdenaa.Card

theorem line_info : (Try.prog.info? 41).map (fun i => (i.zero, i.size, i.bytes)) = some (some (.agg #[.int .u8 0, .string ByteArray.empty, .slice none 0 0]), 3, 48) := by kernel_rfl
set_option maxRecDepth 100000 in
set_option maxHeartbeats 2000000 in
theorem insl_end (base : Nat) (A : Option Addr) (c : Nat) (l : List LineM) (x : LineM) (B : Nat) (X : Option Addr) (w : World) (h : lineE.Own w base 41 (.slice A l.length c) l) (hx : lineE.Rd w B X [x]) (hbs : base ≤ w.heap.size) (hsz : l.length ≤ 1000000) :
    Calls Try.prog 114 #[.slice A l.length c, .int .i64 (l.length : Int), .slice X 1 1] w fun e w' =>
      ∃ A' c', e = .returned (.slice A' (l ++ [x]).length c') ∧ lineE.Own w' base 41 (.slice A' (l ++ [x]).length c') (l ++ [x]) ∧ Upd (fun k => (Value.slice A l.length c).ownBlock = some k) w w' := by
  have hcap : l.length ≤ c := h.cap
  have hcm : c ≤ 9223372036854775807 := by
    obtain ⟨A', c', he, _, h2, _⟩ := OwnK.form h
    injection he with _ _ e3
    subst e3
    exact h2
  have e1 : (l.length : Int) ≤ (c : Int) := by omega
  have e2 : (0 : Int) ≤ (l.length : Int) := by omega
  have hz : (l.length + [x].length) * 48 ≤ 140737488355328 := by simp; omega
  have HQ : Kept (∀ r : List LineM, r = l ++ [x] → r.length = (l ++ [x]).length) := ⟨fun r h => by rw [h]⟩
  obtain ⟨X2, hX2⟩ : ∃ X2, (if c = l.length then A else A.map (fun p => p.add (l.length * 3))) = X2 := ⟨_, rfl⟩
  go_enter Try.func114, Try.ntmps114
  go_wp2_with (at_builtin; refine wpl_appEU _ lineE rfl (.tmp 23) (.tmp 24) 36 rfl base 41 Try.underlying36 line_info rfl _ l rfl h _ _ _ _ [x] rfl rfl hx hz (by decide) hbs ?_; intro A9 c9 w9 r9 hr9 hown9 hu9 hx9)
  have HU := kept (hu9 (fun k => (Value.slice A l.length c).ownBlock = some k) fun _ h => h)
  have HO := kept hown9
  have HR := kept hr9.out
  clear hu9 hown9 hx9
  go_wp2_with fail
  go_ret
  exact ⟨A9, c9, by rw [← HR.out]; rfl, by rw [← HR.out]; exact HO.out, HU.out⟩
end Go.Proofs.Ytnmcclkpgbdenaa.Chg

/- The builtin copy as a step of the walk, and what slices.Insert's copies leave, over any program. -/
namespace Go.Proofs.Ytnmcclkpgbdenaa.Mem
open Go.RowKit

theorem wp_copyI {P : Program} (w : World) {o : Oper} {a : Act} {K : Act → World → Prop} {Q : Exit → Act → World → Prop} (d s : Operand) (t t' : TypeId)
    (ho : o.op = .call { callee := .builtin .copy, args := #[d, s], argTypes := #[t, t'] }) (v u : Value) (hd : a.eval d = v) (hs : a.eval s = u) {v' : Value} {w' : World}
    (hr : (Builtin.copy_ #[t, t'] o.type #[v, u]).run P w = .ok v' w') (h : K (a.put o.dst v') w') : o.wp P a w K Q := by
  unfold Oper.wp execOp
  simp only [ho, resolve, invoke, builtin, Sem.run_bind, Sem.run_pure, Result.andThen_ok, List.map_toArray, List.map_cons, List.map_nil, hd, hs, hr]
  exact h
theorem wpl_copyI {P : Program} (w : World) {ops : Array Oper} {rest : List Oper} {o : Oper} {a : Act} {Q : Exit → Act → World → Prop} (hgd : o.guard = none) (d s : Operand) (t t' : TypeId)
    (ho : o.op = .call { callee := .builtin .copy, args := #[d, s], argTypes := #[t, t'] }) (v u : Value) (hd : a.eval d = v) (hs : a.eval s = u) {v' : Value} {w' : World}
    (hr : (Builtin.copy_ #[t, t'] o.type #[v, u]).run P w = .ok v' w') (h : wpList P ops Q rest (a.put o.dst v') w') : wpList P ops Q (o :: rest) a w :=
  wpList_plain hgd fun _ hK => wp_copyI w d s t t' ho v u hd hs hr (hK _ _ h)
theorem step_copyI {P : Program} {ops : Array Oper} {o : Oper} {a : Act} {w : World} {K : Act → World → Prop} {Q : Exit → Act → World → Prop} {E : Prop}
    (hg : o.guard = none) (d x : Operand) (dT sT : TypeId) (hop : o.op = Op.call { callee := Callee.builtin Builtin.copy, args := #[d, x], argTypes := #[dT, sT] })
    (v u : Value) (hd : a.eval d = v) (hx : a.eval x = u) {v' : Value} {w' : World} (hr : (Builtin.copy_ #[dT, sT] o.type #[v, u]).run P w = .ok v' w') (hK : K (a.put o.dst v') w') :
    if Region.wanted o (yielded ops a.tmps) = true then Oper.wp P o a w K Q else E := by
  rw [if_pos (by simp [Region.wanted, hg])]
  exact wp_copyI w d x dT sT hop v u hd hx hr hK
theorem drew_setCells (b : Nat) : ∀ (vs : List Value) (o : Nat) (w : World), (w.setCells b o vs).drew = w.drew.setCells b o vs
  | [], _, _ => rfl
  | v :: r, o, w => by rw [World.setCells, World.setCells, drew_setCells b r]; rfl
theorem Upd.setCells {S : Nat → Prop} {a : World} {b : Nat} (hb : S b ∨ a.heap.size ≤ b) : ∀ (vs : List Value) (o : Nat) (w : World), Upd S a w → Upd S a (w.setCells b o vs)
  | [], _, _, h => by rw [World.setCells]; exact h
  | v :: vs, o, w, h => by
    rw [World.setCells]
    exact Upd.setCells hb vs (o + 1) _ (h.setCell (p := ⟨b, o, none⟩) hb v)
theorem Blk.shape {w : World} {g : Nat} {cs : List Value} {t : TypeId} (h : Blk w g cs t) : w.shape? g = some (t, cs.length) := by
  unfold Blk at h
  simp [World.shape?, h]
/-- a block in which cells are set is a block of as many cells -/
theorem Blk.cells {w : World} {g o : Nat} {cs : List Value} {t : TypeId} (h : Blk w g cs t) (vs : List Value) (hl : o + vs.length ≤ cs.length) : Blk (w.setCells g o vs) g (cs.take o ++ vs ++ cs.drop (o + vs.length)) t := blk_setCells vs o w cs h hl
theorem blk_other {w : World} {g g' o : Nat} {cs : List Value} {t : TypeId} (h : Blk w g cs t) (hne : g' ≠ g) : ∀ (vs : List Value) (o : Nat) (w : World), Blk w g cs t → Blk (w.setCells g' o vs) g cs t
  | [], _, _, h => by rw [World.setCells]; exact h
  | v :: vs, o, w, h => by
    rw [World.setCells]
    exact blk_other (o := o) h hne vs (o + 1) _ (h.other (p := ⟨g', o, none⟩) hne v)
theorem Blk.some {w : World} {g : Nat} {cs : List Value} {t : TypeId} (h : Blk w g cs t) {j : Nat} (hj : j < cs.length) : (w.cell? ⟨g, j, none⟩).isSome = true := by
  rw [h.cell (List.getElem?_eq_getElem hj)]; rfl
/-- what an owned row's block is -/
theorem OwnK.blk {size : Nat} {w : World} {base : Nat} {e : TypeId} {r n m c : Nat} {xs : List Value} (h : OwnK size w base e (.slice (some ⟨r, 0, none⟩) m c) n xs) : ∃ cs, Blk w r cs e ∧ cs.length = c * size ∧ cs.take (n * size) = xs ∧ n ≤ c ∧ c ≤ maxLen ∧ base ≤ r := by
  rcases h.2 with ⟨h0, _⟩ | ⟨g, cap, cur, hvv, hbg, hg, hnc, hcm, hcs, htake⟩
  · cases h0
  · cases hvv
    exact ⟨cur.toList, by show w.heap[r]? = _; simpa using hg, by simpa using hcs, htake, hnc, hcm, hbg⟩
end Go.Proofs.Ytnmcclkpgbdenaa.Mem
