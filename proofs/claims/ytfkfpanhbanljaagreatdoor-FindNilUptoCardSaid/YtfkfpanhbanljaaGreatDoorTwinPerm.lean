/- Layer 47 (twin): the order of the cards plays no part: the plain law. -/
import Derived.Test.YtfkfpanhbanljaaGreatDoorSet39
namespace Go.Proofs.YtfkfpanhbanljaaGreatDoor.Twin
open Go.RowKit Go.Proofs.YtfkfpanhbanljaaGreatDoor.Mem Go.Proofs.YtfkfpanhbanljaaGreatDoor.Card

theorem conn_map {n : Nat} {adj adj' : Nat → Nat → Bool} {p : Nat → Nat} (hp : ∀ x, x < n → p x < n) (ha : ∀ x y, x < n → y < n → adj' x y = adj (p x) (p y)) {x y : Nat} (h : Conn n adj' x y) : Conn n adj (p x) (p y) := by
  induction h with
  | refl h => exact .refl _ (hp _ h)
  | step h1 h2 h3 ih => exact .step ih (hp _ h2) (by rw [← ha _ _ h1.right h2]; exact h3)
theorem conn_back {n : Nat} {adj adj' : Nat → Nat → Bool} {p : Nat → Nat} (hp : ∀ x, x < n → p x < n) (hi : ∀ x, x < n → p (p x) = x) (ha : ∀ x y, x < n → y < n → adj' x y = adj (p x) (p y)) {x y : Nat} (hx : x < n) (hy : y < n) (h : Conn n adj (p x) (p y)) : Conn n adj' x y := by
  have := conn_map (adj := adj') (adj' := adj) (p := p) hp (fun a b h1 h2 => by rw [ha _ _ (hp a h1) (hp b h2), hi a h1, hi b h2]) h
  rwa [hi x hx, hi y hy] at this
/-- the groups of cards in another order -/
theorem groups_perm {n : Nat} {adj adj' : Nat → Nat → Bool} {cid cid' : Nat → Nat} {p : Nat → Nat} (hs : ∀ i k, adj i k = adj k i) (hs' : ∀ i k, adj' i k = adj' k i) (hp : ∀ x, x < n → p x < n) (hi : ∀ x, x < n → p (p x) = x)
    (ha : ∀ x y, x < n → y < n → adj' x y = adj (p x) (p y)) (hc : ∀ x, x < n → cid' x = cid (p x)) :
    sortG (groupsL n cid' (headR adj' n 0)) = sortG (groupsL n cid (headR adj n 0)) := by
  have ok := headR_ok (n := n) (i := n) (k := 0) hs (.inr ⟨Nat.le_refl _, rfl⟩)
  have ok' := headR_ok (n := n) (i := n) (k := 0) hs' (.inr ⟨Nat.le_refl _, rfl⟩)
  have h1 := groups_same n cid' (headR adj' n 0) (fun x => headR adj n 0 (p x)) (fun x hx => (ok' x hx).1) (fun x hx => (ok (p x) (hp x hx)).1) fun x y hx hy => by
    rw [headR_iff hs' hx hy, headR_iff hs (hp x hx) (hp y hy)]
    exact ⟨conn_map hp ha, conn_back hp hi ha hx hy⟩
  have h2 : groupsL n cid' (fun x => headR adj n 0 (p x)) = groupsL n cid (headR adj n 0) := by
    unfold groupsL
    congr 1
    refine List.map_congr_left fun m _ => ?_
    refine rising_ext (norm_rising _) (norm_rising _) fun x => ?_
    rw [class_mem, class_mem]
    constructor
    · rintro ⟨i, h1, h2, h3⟩
      exact ⟨p i, hp i h1, h2, by rw [← hc i h1]; exact h3⟩
    · rintro ⟨i, h1, h2, h3⟩
      exact ⟨p i, hp i h1, by rw [hi i h1]; exact h2, by rw [hc _ (hp i h1), hi i h1]; exact h3⟩
  rw [sortG_ext h1, h2]
/-- the other order of the statement -/
def turnP (n f i : Nat) : Nat := (n - 1 - i + f) % n
theorem turn_lt {n f i : Nat} (hn : i < n) : turnP n f i < n := Nat.mod_lt _ (by omega)
theorem turn_back {n f i : Nat} (hi : i < n) : turnP n f (turnP n f i) = i := by
  have h1 : turnP n f i < n := turn_lt hi
  have h2 : n * ((n - 1 - i + f) / n) + turnP n f i = n - 1 - i + f := Nat.div_add_mod _ _
  generalize turnP n f i = r at *
  unfold turnP
  have h3 : n - 1 - r + f = i + n * ((n - 1 - i + f) / n) := by
    generalize n * ((n - 1 - i + f) / n) = q at *
    omega
  rw [h3, Nat.add_mul_mod_self_left, Nat.mod_eq_of_lt hi]
def turned (f : Nat) (l : List CardM) : List CardM := (List.range l.length).map fun i => l.getD (turnP l.length f i) cz
theorem turned_len (f : Nat) (l : List CardM) : (turned f l).length = l.length := by simp [turned]
theorem turned_at {f : Nat} {l : List CardM} {i : Nat} (hi : i < l.length) : (turned f l).getD i cz = l.getD (turnP l.length f i) cz := by simp [turned, List.getD, hi]
theorem turned_mem {f : Nat} {l : List CardM} {x : CardM} (h : x ∈ turned f l) : x ∈ l := by
  unfold turned at h
  obtain ⟨i, h1, rfl⟩ := List.mem_map.1 h
  have hi := List.mem_range.1 h1
  have h2 := turn_lt (f := f) hi
  rw [show l.getD (turnP l.length f i) cz = l[turnP l.length f i] from by simp [List.getD, h2]]
  exact List.getElem_mem _
theorem groups_turned (f : Nat) (l : List CardM) : sortG (groupsL (turned f l).length (cidAt (turned f l)) (headR (adjB (turned f l)) (turned f l).length 0)) = sortG (groupsL l.length (cidAt l) (headR (adjB l) l.length 0)) := by
  rw [turned_len]
  refine groups_perm (p := turnP l.length f) (adjB_symm l) (adjB_symm _) (fun x hx => turn_lt hx) (fun x hx => turn_back hx) (fun x y hx hy => ?_) (fun x hx => ?_)
  · unfold adjB; rw [turned_at hx, turned_at hy]
  · unfold cidAt; rw [turned_at hx]
theorem turned_next {f : Nat} {l : List CardM} {i : Nat} {x : CardM} (hi : i < l.length) (hx : l[turnP l.length f i]? = some x) : (turned f l).take (i + 1) = (turned f l).take i ++ [x] := by
  have h1 : i < (turned f l).length := by rw [turned_len]; exact hi
  rw [List.take_succ_eq_append_getElem h1]
  have h2 := turned_at (f := f) hi
  simp only [List.getD, List.getElem?_eq_getElem h1, Option.getD_some] at h2
  rw [h2, hx]
  rfl
/-! asked the other way round it is the same -/
theorem some_symm {p : ByteArray → ByteArray → Bool} (hp : ∀ x y, p x y = p y x) (a b : List ByteArray) : someM p a b = someM p b a := by
  rw [Bool.eq_iff_iff]
  unfold someM
  simp only [List.any_eq_true]
  exact ⟨fun ⟨x, hx, y, hy, h⟩ => ⟨y, hy, x, hx, by rw [hp]; exact h⟩, fun ⟨x, hx, y, hy, h⟩ => ⟨y, hy, x, hx, by rw [hp]; exact h⟩⟩
theorem small_symm (x y : ByteArray) : eqSmall x y = eqSmall y x := by
  unfold eqSmall
  by_cases h : x.size = y.size
  · rw [decide_eq_true h, decide_eq_true h.symm, h]
    refine congrArg _ (congrArg _ (funext fun i => ?_))
    rw [decide_eq_decide]
    exact eq_comm
  · rw [decide_eq_false h, decide_eq_false (fun e => h e.symm)]; rfl
theorem mail_symm (x y : ByteArray) : mailB x y = mailB y x := by
  unfold mailB
  rw [small_symm x y]
  cases h : eqSmall y x with
  | false => simp
  | true =>
    have hs : y.size = x.size := by
      unfold eqSmall at h
      rw [Bool.and_eq_true] at h
      exact of_decide_eq_true h.1
    have he : ∀ z : ByteArray, z = ⟨#[]⟩ ↔ z.size = 0 := fun z => by
      constructor
      · rintro rfl; rfl
      · intro h0
        obtain ⟨d⟩ := z
        have : d = #[] := by
          have h1 : d.size = 0 := h0
          exact Array.eq_empty_of_size_eq_zero h1
        rw [this]
    rw [Bool.and_true, Bool.and_true, decide_eq_decide]
    exact not_congr ((he x).trans ((by rw [hs] : x.size = 0 ↔ y.size = 0).trans (he y).symm))
theorem alike_symm (hp : ∀ x y, Phone.sameB x y = Phone.sameB y x) (a b : CardM) : alikeB a b = alikeB b a := by
  unfold alikeB
  rw [some_symm hp, some_symm mail_symm]
  congr 1
  by_cases h : Fold.foldB (titleOf a.ls) = Fold.foldB (titleOf b.ls)
  · rw [h]
  · have e1 : decide (Fold.foldB (titleOf a.ls) = Fold.foldB (titleOf b.ls)) = false := decide_eq_false h
    have e2 : decide (Fold.foldB (titleOf b.ls) = Fold.foldB (titleOf a.ls)) = false := decide_eq_false fun e => h e.symm
    rw [e1, e2, Bool.and_false, Bool.and_false]
end Go.Proofs.YtfkfpanhbanljaaGreatDoor.Twin
