/- Bytes that an object holds in a slice of its own, or in one cut to its length: what a file of layer 22 is. -/
import Derived.Test.YtdlghabpnpbebaaDoorBytesU
import Derived.ArgAppend
namespace Go.Proofs.YtdlghabpnpbebaaDoor.Mem
open Go.RowKit

/-- bytes of one's own, or a slice with no room behind it -/
def FOwn (w : World) (v : Value) (l : List Nat) : Prop :=
  Own w 0 5 v (BB l) ∨ (l.length ≤ maxLen ∧ ∃ b o, v = .slice (some ⟨b, o, none⟩) l.length l.length ∧ b < w.heap.size ∧ Rd w w.heap.size (some ⟨b, o, none⟩) (BB l))
section
variable {w w' : World} {v : Value} {l : List Nat}
theorem FOwn.form (h : FOwn w v l) : ∃ A c, v = .slice A l.length c ∧ l.length ≤ c ∧ c ≤ maxLen ∧ Rd w w.heap.size A (BB l) := by
  rcases h with h | ⟨hm, b, o, rfl, hb, hr⟩
  · obtain ⟨A, c, he, h1, h2, h3⟩ := h.form
    rw [BB_length] at he h1
    exact ⟨A, c, he, h1, h2, h3⟩
  · exact ⟨_, _, rfl, Nat.le_refl _, hm, hr⟩
theorem FOwn.nil (w : World) : FOwn w (.slice none 0 0) [] := .inl (Own.nilv _ _ _)
theorem FOwn.upd {S : Nat → Prop} (h : FOwn w v l) (hu : Upd S w w') (hs : ∀ k, v.ownBlock = some k → ¬ S k) : FOwn w' v l := by
  rcases h with h | ⟨hm, b, o, rfl, hb, hr⟩
  · exact .inl (h.upd hu hs)
  · exact .inr ⟨hm, b, o, rfl, Nat.lt_of_lt_of_le hb hu.size, (hr.upd hu (Nat.le_refl _) (fun x hx => hs _ (by obtain rfl := Option.some.inj hx; rfl))).more hu.size⟩
theorem FOwn.next (h : FOwn w v l) (hb : Below w.heap.size w w') : FOwn w' v l := h.upd (Upd.of_below (S := fun _ => False) hb) fun _ _ e => e
theorem FOwn.lt (h : FOwn w v l) : ∀ k, v.ownBlock = some k → k < w.heap.size := by
  intro k hk
  rcases h with h | ⟨hm, b, o, rfl, hb, hr⟩
  · exact (h.lt k hk).2
  · obtain rfl : b = k := Option.some.inj hk
    exact hb
/-- the first bytes, with no room behind them -/
theorem FOwn.cut {A : Option Addr} {c n : Nat} (h : FOwn w (.slice A l.length c) l) (hn : n ≤ l.length) : FOwn w (.slice A n n) (l.take n) := by
  have hl : (l.take n).length = n := by rw [List.length_take]; omega
  obtain ⟨A', c', he, h1, h2, h3⟩ := h.form
  injection he with he1 _ he3
  subst he1 he3
  rcases A with _ | ⟨b, o, s⟩
  · -- nil: no bytes
    have hl0 : l = [] := by
      rcases l with _ | ⟨x, t⟩
      · rfl
      · obtain ⟨_, _, h4, _⟩ := h3 (by simp [BB])
        cases h4
    subst hl0
    obtain rfl : n = 0 := by simpa using hn
    exact FOwn.nil w
  · have hs : s = none := by
      rcases h with h | ⟨_, b', o', he, _⟩
      · rcases h.2 with ⟨h5, _⟩ | ⟨g, cap, cur, h5, _⟩
        · cases h5
        · injection h5 with h6
          injection Option.some.inj h6
      · injection he with h6
        injection Option.some.inj h6
    subst hs
    refine .inr ⟨by rw [hl]; omega, b, o, by rw [hl], h.lt b rfl, ?_⟩
    have := h3.take n
    rwa [BB_take] at this
end
section
variable (w : World)
theorem run_append_stay (A : Option Addr) (c b o n cap : Nat) (hnc : n ≤ cap) (ty : TypeId) :
    (Builtin.append_ #[22, 22] ty #[.slice (some ⟨b, o, none⟩) n cap, .slice A 0 c]).run Tryd.prog w = .ok (.slice (some ⟨b, o, none⟩) n cap) w := by
  obtain ⟨i0, hi0, hz0, hz1, hz2⟩ := info_parts u8_info
  rcases A with _ | a
  · simp [Builtin.append_, run_underlying Tryd.underlying22, sizeOf, typeInfo, hi0, Builtin.lenOf, Builtin.firstCells, hnc, storeCells]
  · have := run_append_room_cells (P := Tryd.prog) w 22 ty 5 i0 Tryd.underlying22 hi0 b o n cap a 0 c [] (by simp) (by simp) (by simp) (by omega) (by simp) (by simp)
    simpa [World.setCells] using this
set_option maxRecDepth 100000 in
theorem wp_appF {o : Oper} {a : Act} {K : Act → World → Prop} {Q : Exit → Act → World → Prop} (s x : Operand)
    (ho : o.op = .call { callee := .builtin .append, args := #[s, x], argTypes := #[22, 22] })
    (v : Value) (l : List Nat) (hs : a.eval s = v) (hown : FOwn w v l)
    (B : Nat) (A : Option Addr) (m c : Nat) (news : List Nat) (hx : a.eval x = .slice A m c) (hm : m = news.length) (hr : Rd w B A (BB news))
    (hsz : l.length + news.length ≤ 140737488355328)
    (h : ∀ A' c' w' r, Kept (r = l ++ news) → FOwn w' (.slice A' r.length c') r → (∀ S : Nat → Prop, (∀ k, v.ownBlock = some k → S k) → Upd S w w') → (∀ x, A' = some x → v.ownBlock = some x.block ∨ w.heap.size ≤ x.block) → K (a.put o.dst (.slice A' r.length c')) w') : o.wp Tryd.prog a w K Q := by
  obtain ⟨i0, hi0, hz0, hz1, hz2⟩ := info_parts u8_info
  rcases hown with hown | ⟨hmx, b, off, rfl, hb, hrd⟩
  · refine wp_append_at w s x 22 ho 1 0 5 i0 _ 1 Tryd.underlying22 hi0 hz0 hz1 hz2 rfl (by decide) v l.length (BB l) hs (by have := hown; unfold Own at this; rw [BB_length] at this; exact this) B A m c (BB news) hx (by rw [BB_length, hm, Nat.mul_one]) hr (BB_one _) (by rw [hm]; omega) (Nat.le_refl _) (Nat.zero_le _) ?_
    intro A' c' w' h1 h2 h3
    have hl : l.length + m = (l ++ news).length := by rw [List.length_append, hm]
    rw [hl, ← BB_append] at h1
    rw [hl]
    refine h A' c' w' (l ++ news) ⟨rfl⟩ (.inl ?_) h2 h3
    unfold Own
    rw [BB_length]
    exact h1
  · subst hm
    by_cases hn : news = []
    · subst hn
      have hrun := run_append_stay w A c b off l.length l.length (Nat.le_refl _) o.type
      unfold Oper.wp execOp
      simp only [ho, resolve, invoke, builtin, Sem.run_bind, Sem.run_pure, Result.andThen_ok, List.map_toArray, List.map_cons, List.map_nil, hs, hx, List.length_nil, hrun]
      exact h (some ⟨b, off, none⟩) l.length w l ⟨by simp⟩ (.inr ⟨hmx, b, off, rfl, hb, hrd⟩) (fun S _ => Upd.refl S w) (fun x hx => .inl (by obtain rfl := Option.some.inj hx; rfl))
    · obtain ⟨b2, o2, rfl, hb2, hc2⟩ := hr (by intro e; apply hn; simpa [BB] using e)
      have hpos : 0 < news.length := by rcases news with _ | ⟨y, t⟩; exact absurd rfl hn; simp
      obtain ⟨v', w', hrun, hown', hg⟩ := run_append_arg_grows (P := Tryd.prog) w 22 o.type 5 i0 _ 1 1 Tryd.underlying22 hi0 hz0 hz1 hz2 rfl (by decide) ⟨b, off, none⟩ l.length l.length (BB l) (by rw [BB_length, Nat.mul_one]) (fun j u hu => by
          obtain ⟨b', o', he, _, hc⟩ := hrd (by intro e; rw [e] at hu; simp at hu)
          injection Option.some.inj he with h1 h2
          subst h1 h2
          rw [add_plain]; exact hc j u hu) ⟨b2, o2, none⟩ news.length c (BB news) (by rw [BB_length, Nat.mul_one]) (fun j u hu => by rw [add_plain]; exact hc2 j u hu) (by omega) (by simp only [maxLen]; omega) (by omega)
      have hl : l.length + news.length = (l ++ news).length := by rw [List.length_append]
      rw [hl, ← BB_append] at hown'
      have ho' : OwnK 1 w' w.heap.size 5 v' (l ++ news).length (BB (l ++ news)) := hown'
      obtain ⟨A', c', rfl, _⟩ := ho'.form
      unfold Oper.wp execOp
      simp only [ho, resolve, invoke, builtin, Sem.run_bind, Sem.run_pure, Result.andThen_ok, List.map_toArray, List.map_cons, List.map_nil, hs, hx, hrun]
      refine h A' c' w' (l ++ news) ⟨rfl⟩ (.inl ?_) (fun S _ => (Upd.refl S w).grown hg fun k hk => by cases hk) (fun x hx => .inr ?_)
      · unfold Own
        rw [BB_length]
        exact ho'.mono (Nat.zero_le _)
      · subst hx
        exact (ho'.under x.block rfl).1
theorem wpl_appF {ops : Array Oper} {rest : List Oper} {o : Oper} {a : Act} {Q : Exit → Act → World → Prop} (hgd : o.guard = none) (s x : Operand)
    (ho : o.op = .call { callee := .builtin .append, args := #[s, x], argTypes := #[22, 22] })
    (v : Value) (l : List Nat) (hs : a.eval s = v) (hown : FOwn w v l)
    (B : Nat) (A : Option Addr) (m c : Nat) (news : List Nat) (hx : a.eval x = .slice A m c) (hm : m = news.length) (hr : Rd w B A (BB news))
    (hsz : l.length + news.length ≤ 140737488355328)
    (h : ∀ A' c' w' r, Kept (r = l ++ news) → FOwn w' (.slice A' r.length c') r → (∀ S : Nat → Prop, (∀ k, v.ownBlock = some k → S k) → Upd S w w') → (∀ x, A' = some x → v.ownBlock = some x.block ∨ w.heap.size ≤ x.block) → wpList Tryd.prog ops Q rest (a.put o.dst (.slice A' r.length c')) w') : wpList Tryd.prog ops Q (o :: rest) a w :=
  wpList_plain hgd fun _ hK => wp_appF w s x ho v l hs hown B A m c news hx hm hr hsz fun A' c' w' r h1 h2 h3 h4 => hK _ _ (h A' c' w' r h1 h2 h3 h4)
theorem step_appF {ops : Array Oper} {o : Oper} {a : Act} {K : Act → World → Prop} {Q : Exit → Act → World → Prop} {E : Prop} (hgd : o.guard = none) (s x : Operand)
    (ho : o.op = .call { callee := .builtin .append, args := #[s, x], argTypes := #[22, 22] })
    (v : Value) (l : List Nat) (hs : a.eval s = v) (hown : FOwn w v l)
    (B : Nat) (A : Option Addr) (m c : Nat) (news : List Nat) (hx : a.eval x = .slice A m c) (hm : m = news.length) (hr : Rd w B A (BB news))
    (hsz : l.length + news.length ≤ 140737488355328)
    (h : ∀ A' c' w' r, Kept (r = l ++ news) → FOwn w' (.slice A' r.length c') r → (∀ S : Nat → Prop, (∀ k, v.ownBlock = some k → S k) → Upd S w w') → (∀ x, A' = some x → v.ownBlock = some x.block ∨ w.heap.size ≤ x.block) → K (a.put o.dst (.slice A' r.length c')) w') :
    if Region.wanted o (yielded ops a.tmps) = true then Oper.wp Tryd.prog o a w K Q else E := by
  have hw : Region.wanted o (yielded ops a.tmps) = true := by simp [Region.wanted, hgd]
  rw [if_pos hw]
  exact wp_appF w s x ho v l hs hown B A m c news hx hm hr hsz h
end
end Go.Proofs.YtdlghabpnpbebaaDoor.Mem
