import Derived.Test.YtfkfpanhbanljaaGreatDoorTwinSt
import Derived.Test.YtfkfpanhbanljaaGreatDoorTwinAlike
import Derived.Test.YtfkfpanhbanljaaGreatDoorSet14
/- Layer 47 (twin): Groups: facts ahead of the walk. -/
namespace Go.Proofs.YtfkfpanhbanljaaGreatDoor.Twin
open Go.RowKit Go.Proofs.YtfkfpanhbanljaaGreatDoor.Mem Go.Proofs.YtfkfpanhbanljaaGreatDoor.Card Go.Proofs.YtfkfpanhbanljaaGreatDoor.Fold Go.Proofs.YtfkfpanhbanljaaGreatDoor.Laid

def cz : CardM := ⟨0, none, [], 0⟩
def adjB (l : List CardM) (i k : Nat) : Bool := alikeB (l.getD i cz) (l.getD k cz) || alikeB (l.getD k cz) (l.getD i cz)
def cidAt (l : List CardM) (i : Nat) : Nat := (l.getD i cz).cid
theorem adjB_symm (l : List CardM) (i k : Nat) : adjB l i k = adjB l k i := Bool.or_comm _ _
theorem getD_of {α : Type} {l : List α} {i : Nat} {x z : α} (h : l[i]? = some x) : l.getD i z = x := by simp [List.getD, h]
/-- the cells of a card in a row -/
theorem card_at {w : World} {A : Option Addr} {l : List CardM} (h : RdCards w w.heap.size A l) {i : Nat} {x : CardM} (hi : l[i]? = some x) :
    ∃ b o, A = some ⟨b, o, none⟩ ∧ b < w.heap.size ∧ w.cell? ⟨b, o + i * 2, none⟩ = some (.int .u64 (x.cid : Int)) ∧ w.cell? ⟨b, o + i * 2 + 1, none⟩ = some (.slice x.X x.ls.length x.c) ∧ x.Ok w w.heap.size := h.at_ hi
theorem range_put {n k : Nat} (hk : k < n) : (List.range k ++ List.replicate (n - k) 0).set k k = List.range (k + 1) ++ List.replicate (n - (k + 1)) 0 := by
  rw [List.set_append_right _ _ (by simp), List.length_range, Nat.sub_self, show n - k = n - (k + 1) + 1 by omega, List.replicate_succ, List.set_cons_zero, List.range_succ, List.append_assoc]
  rfl
/-- the members of each group that were put so far -/
def inG (R : Nat → Nat) (cid : Nat → Nat) (i m : Nat) : List Nat := ((List.range i).filter fun x => decide (R x = m)).map cid
theorem inG_next (R cid : Nat → Nat) (i m : Nat) : inG R cid (i + 1) m = inG R cid i m ++ (if R i = m then [cid i] else []) := by
  unfold inG
  rw [List.range_succ, List.filter_append, List.map_append]
  congr 1
  by_cases h : R i = m
  · simp [h]
  · simp [h]
/-- the row of groups, the groups, and the heads -/
def GSt (w W : World) (V n : Nat) (up : List Nat) (B : Nat) (gs : List GrpM) : Prop := UpSt w W V n up ∧ V < B ∧ grpE.Own W B 49 (.slice (some ⟨B, 0, none⟩) n n) gs ∧ GOwn W B gs
section
variable {w W W' : World} {V n B m : Nat} {up : List Nat} {gs : List GrpM} {g g' : GrpM}
theorem GSt.next (h : GSt w W V n up B gs) (hb : Below W.heap.size W W') : GSt w W' V n up B gs := ⟨h.1.next hb, h.2.1, h.2.2.1.next hb, h.2.2.2.next hb⟩
theorem GSt.below (h : GSt w W V n up B gs) : Below w.heap.size w W := h.1.1.1
theorem GSt.len (h : GSt w W V n up B gs) : gs.length = n := h.2.2.1.len.symm
/-- a group's row is changed -/
theorem GSt.put (h : GSt w W V n up B gs) (hm : gs[m]? = some g) (hu : Upd (fun k => g.val.ownBlock = some k) W W') (ho : Own W' B 28 g'.val (WB g'.l)) (hb : ∀ k, g'.val.ownBlock = some k → g.val.ownBlock = some k ∨ W.heap.size ≤ k) :
    UpSt w W' V n up ∧ grpE.Own W' B 49 (.slice (some ⟨B, 0, none⟩) n n) gs ∧ GOwn W' B (gs.set m g') := by
  have hg := h.2.2.2.1 g (List.mem_of_getElem? hm)
  refine ⟨h.1.upd hu fun k hk => ?_, h.2.2.1.upd hu fun k hk e => ?_, h.2.2.2.put hm hu ho hb⟩
  · have := (hg.lt k hk).1
    have := h.2.1
    omega
  · exact own_apart (show OwnK 1 W B 28 g.val (WB g.l).length (WB g.l) from hg) (show OwnK grpE.k W B 49 (.slice (some ⟨B, 0, none⟩) n n) gs.length (grpE.cells gs) from h.2.2.1) (by decide) k e hk
/-- a group's row is changed, and its place holds the same -/
theorem GSt.same (h : GSt w W V n up B gs) (hm : gs[m]? = some g) (hu : Upd (fun k => g.val.ownBlock = some k) W W') (ho : Own W' B 28 g'.val (WB g'.l)) (hv : g'.val = g.val) : GSt w W' V n up B (gs.set m g') := by
  obtain ⟨h1, h2, h3⟩ := h.put hm hu ho (fun k hk => .inl (by rw [← hv]; exact hk))
  refine ⟨h1, h.2.1, ?_, h3⟩
  have hlt := (List.getElem?_eq_some_iff.1 hm)
  have e : grpE.cells (gs.set m g') = grpE.cells gs := by
    rw [grpE_cells, grpE_cells, List.map_set, hv]
    obtain ⟨h5, h6⟩ := hlt
    rw [← h6]
    exact List.ext_getElem? fun j => by
      rw [List.getElem?_set]
      split
      · rename_i e; subst e; simp [h5]
      · rfl
  have h5 : OwnK grpE.k W' B 49 (.slice (some ⟨B, 0, none⟩) n n) gs.length (grpE.cells gs) := h2
  unfold Elem.Own
  rw [e, List.length_set]
  exact h5
/-- .. and its place is written -/
theorem GSt.store (h1 : UpSt w W V n up) (hB : V < B) (h2 : grpE.Own W B 49 (.slice (some ⟨B, 0, none⟩) n n) gs) (h3 : GOwn W B (gs.set m g')) (hm : m < gs.length) :
    (∃ u, W.cell? ⟨B, m, none⟩ = some u) ∧ W.frozen? ⟨B, m, none⟩ = false ∧ GSt w (W.setCell ⟨B, m, none⟩ g'.val) V n up B (gs.set m g') := by
  obtain ⟨r, e1, -, c0, f0, s0⟩ := grp_spot h2 hm
  obtain rfl : B = r := congrArg Addr.block (Option.some.inj e1)
  have hU : Upd (fun k => (Value.slice (some ⟨B, 0, none⟩) n n).ownBlock = some k) W (W.setCell ⟨B, m, none⟩ g'.val) := (Upd.refl (fun k => (Value.slice (some ⟨B, 0, none⟩) n n).ownBlock = some k) W).setCell (p := ⟨B, m, none⟩) (.inl rfl) _
  refine ⟨⟨_, c0⟩, f0, h1.upd hU fun k hk => ?_, hB, s0 g', h3.row h2 hU⟩
  obtain rfl : B = k := Option.some.inj hk
  exact hB
/-- a number more in a group, and its place written -/
theorem GSt.app (h : GSt w W V n up B gs) (hm : gs[m]? = some g) {W1 : World} (hb : Below W.heap.size W W1) {A3 : Option Addr} {c3 : Nat} {r3 : List Nat} (ho : Own W' B 28 (.slice A3 r3.length c3) (WB r3))
    (hu : ∀ S : Nat → Prop, (∀ k, g.val.ownBlock = some k → S k) → Upd S W1 W') (hx : ∀ x, A3 = some x → g.val.ownBlock = some x.block ∨ W1.heap.size ≤ x.block) :
    UpSt w W' V n up ∧ (∃ u, W'.cell? ⟨B, m, none⟩ = some u) ∧ W'.frozen? ⟨B, m, none⟩ = false ∧ GSt w (W'.setCell ⟨B, m, none⟩ (.slice A3 r3.length c3)) V n up B (gs.set m ⟨A3, r3, c3⟩) := by
  obtain ⟨h1, h2, h3⟩ := (h.next hb).put (g' := ⟨A3, r3, c3⟩) hm (hu _ fun _ e => e) ho (fun k hk => by
    obtain ⟨x, e1, rfl⟩ := ob_some' hk
    exact hx x e1)
  obtain ⟨h4, h5, h6⟩ := GSt.store h1 h.2.1 h2 h3 (List.getElem?_eq_some_iff.1 hm).1
  exact ⟨h1, h4, h5, h6⟩
end
end Go.Proofs.YtfkfpanhbanljaaGreatDoor.Twin

/- Layer 47 (twin): Groups: the plain end. -/
namespace Go.Proofs.YtfkfpanhbanljaaGreatDoor.Twin
open Go.RowKit Go.Proofs.YtfkfpanhbanljaaGreatDoor.Mem

theorem dd_norm {l l' : List Nat} (hp : l'.Perm l) (hs : l'.Pairwise (· ≤ ·)) : SortW.dd l' = normL l :=
  norm_of (SortW.dd_rising l' [] hs List.Pairwise.nil (fun a h => by cases h)) fun x => by
    show x ∈ l'.foldl SortW.ddStep [] ↔ _
    rw [SortW.dd_mem, hp.mem_iff]
    simp
theorem class_inG (n : Nat) (cid R : Nat → Nat) (m : Nat) : classL n cid R m = normL (inG R cid n m) := rfl
theorem groups_fin {n : Nat} {cid R : Nat → Nat} {gs l' : List GrpM} (hl : gs.length = n) (h : ∀ m, m < n → (gs.getD m gz).l = classL n cid R m) (hp : l'.Perm (big2 gs)) (hs : l'.Pairwise leG) : l'.map GrpM.l = sortG (groupsL n cid R) := by
  have e : gs.map GrpM.l = (List.range n).map (classL n cid R) := List.ext_getElem (by simp [hl]) fun i h1 h2 => by
    have hi : i < gs.length := by simpa using h1
    have := h i (by omega)
    simp only [List.getD, List.getElem?_eq_getElem hi, Option.getD_some] at this
    simp [this]
  refine sortG_of (List.pairwise_map.2 hs) ?_
  have h1 : (big2 gs).map GrpM.l = groupsL n cid R := by
    unfold big2 groupsL
    rw [← e, List.filter_map]
    refine congrArg _ (List.filter_congr fun x _ => ?_)
    unfold few2
    show (!decide (x.l.length < 2)) = decide (2 ≤ x.l.length)
    by_cases h2 : x.l.length < 2
    · rw [decide_eq_true h2, decide_eq_false (by omega)]; rfl
    · rw [decide_eq_false h2, decide_eq_true (by omega)]; rfl
  rw [← h1]
  exact hp.map _
/-- the contents, one more made plain -/
theorem norm_next {n i : Nat} {cid R : Nat → Nat} {gs : List GrpM} {g' : GrpM} (hl : gs.length = n) (hi : i < n) (h : ∀ m, m < n → (gs.getD m gz).l = if m < i then classL n cid R m else inG R cid n m) (hg : g'.l = normL (gs.getD i gz).l) :
    ∀ m, m < n → ((gs.set i g').getD m gz).l = if m < i + 1 then classL n cid R m else inG R cid n m := fun m hm => by
  have hx := h m hm
  simp only [List.getD_eq_getElem?_getD, List.getElem?_set] at hx ⊢
  by_cases e : i = m
  · subst e
    rw [if_pos rfl, if_pos (by omega), if_pos (by omega)]
    have := h i hi
    rw [if_neg (Nat.lt_irrefl i)] at this
    rw [this, ← class_inG] at hg
    exact hg
  · rw [if_neg e, hx]
    by_cases e2 : m < i
    · rw [if_pos e2, if_pos (by omega)]
    · rw [if_neg e2, if_neg (by omega)]
theorem inG_len (R cid : Nat → Nat) (n m : Nat) : (inG R cid n m).length ≤ n := by
  unfold inG
  rw [List.length_map]
  exact Nat.le_trans (List.length_filter_le _ _) (by rw [List.length_range]; omega)
theorem put_len (l : List Nat) (x : Nat) : (putN l x).length ≤ l.length + 1 := by
  unfold putN
  rw [List.length_append, List.length_append]
  have : (l.filter fun y => decide (y < x)).length + (l.filter fun y => decide (x < y)).length ≤ l.length := by
    induction l with
    | nil => simp
    | cons a l ih =>
      rw [List.filter_cons, List.filter_cons]
      rcases Nat.lt_trichotomy a x with h | h | h
      · rw [if_pos (by simpa using h), if_neg (by simp; omega)]; simp only [List.length_cons]; omega
      · rw [if_neg (by simp; omega), if_neg (by simp; omega)]; simp only [List.length_cons]; omega
      · rw [if_neg (by simp; omega), if_pos (by simpa using h)]; simp only [List.length_cons]; omega
  simp only [List.length_singleton]
  omega
theorem norm_len (l : List Nat) : (normL l).length ≤ l.length := by
  have : ∀ (l acc : List Nat), Rising acc → (l.foldl putN acc).length ≤ acc.length + l.length := fun l => by
    induction l with
    | nil => intro acc _; simp
    | cons x l ih =>
      intro acc h
      have h1 := ih (putN acc x) (put_rising h x)
      have h2 := put_len acc x
      rw [List.foldl_cons, List.length_cons]
      omega
  have h := this l [] List.Pairwise.nil
  simpa [normL] using h
end Go.Proofs.YtfkfpanhbanljaaGreatDoor.Twin
