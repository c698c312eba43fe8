/- Layer 36 (net): New, Send. -/
import Derived.Test.YtpckfnafcmifpaaNetLook
namespace Go.Proofs.Ytpckfnafcmifpaa.Net
open Go.RowKit Go.Proofs.Ytpckfnafcmifpaa.Mem

theorem nst_add {n0 : Nat} {w1 w2 : World} {S : Nat → Prop} {g : Nat} {xs r : List OneM} {x : OneM} {X A2 : Option Addr} {c c2 : Nat} (hg : S g) (hS : ∀ k, S k → k < w1.heap.size) (hk : Blk w1 g [.slice X xs.length c] 80)
    (ho : oneE.Own w1 0 98 (.slice X xs.length c) xs) (hX : ∀ y, X = some y → S y.block ∧ y.block ≠ g) (hm : ∀ x ∈ xs, x.Lies w1 S g X) (hr : r = xs ++ [x]) (hl : r.length ≤ 512) (hok : x.msg.Ok)
    (hrd : Rd w1 w1.heap.size x.A (BB x.b)) (hn0 : n0 ≤ w1.heap.size) (hfr : BB x.b ≠ [] → ∀ a, x.A = some a → ¬ S a.block ∧ n0 ≤ a.block)
    (ho2 : oneE.Own w2 0 98 (.slice A2 r.length c2) r) (hu2 : ∀ S : Nat → Prop, (∀ k, (Value.slice X xs.length c).ownBlock = some k → S k) → Upd S w1 w2)
    (hx2 : ∀ y, A2 = some y → (Value.slice X xs.length c).ownBlock = some y.block ∨ w1.heap.size ≤ y.block) :
    ∃ S', Nst (w2.setCell ⟨g, 0, none⟩ (.slice A2 r.length c2)) S' g r ∧ Upd S w1 (w2.setCell ⟨g, 0, none⟩ (.slice A2 r.length c2)) ∧ ∀ k, S' k → S k ∨ n0 ≤ k := by
  have U := hu2 (fun k => (Value.slice X xs.length c).ownBlock = some k) fun _ h => h
  have hXS : ∀ k, (Value.slice X xs.length c).ownBlock = some k → S k ∧ k ≠ g := fun k hk => by
    obtain ⟨y, hy, rfl⟩ := ob_some' hk
    exact hX y hy
  have hgl := hk.lt
  have hk2 := hk.upd U fun e => (hXS g e).2 rfl
  have hV : Upd (fun k => k = g) w2 (w2.setCell ⟨g, 0, none⟩ (.slice A2 r.length c2)) := (Upd.refl (fun k => k = g) w2).setCell (p := ⟨g, 0, none⟩) (.inl rfl) _
  have hA2 : ∀ y, A2 = some y → y.block ≠ g ∧ y.block < w2.heap.size := fun y hy => by
    refine ⟨?_, ?_⟩
    · rcases hx2 y hy with h1 | h1
      · exact (hXS _ h1).2
      · omega
    · subst hy; exact (ho2.lt y.block rfl).2
  have hxlt : BB x.b ≠ [] → ∀ a, x.A = some a → a.block < w1.heap.size := fun hne a ha => by
    obtain ⟨b, o, e, hb, _⟩ := hrd hne
    rw [ha] at e
    obtain rfl := Option.some.inj e
    exact hb
  -- bytes that lie in w1 apart from the row and from the object stay
  have stay : ∀ y : OneM, Rd w1 w1.heap.size y.A (BB y.b) → (BB y.b ≠ [] → ∀ a, y.A = some a → a.block ≠ g ∧ (∀ z, X = some z → a.block ≠ z.block)) → Rd (w2.setCell ⟨g, 0, none⟩ (.slice A2 r.length c2)) (w2.setCell ⟨g, 0, none⟩ (.slice A2 r.length c2)).heap.size y.A (BB y.b) := fun y h1 h2 => by
    have h3 := (h1.updN U (Nat.le_refl _) fun a ha hne e => by
      obtain ⟨z, hz, h4⟩ := ob_some' e
      exact (h2 hne a ha).2 z hz h4.symm).more U.size
    exact (h3.updN hV (Nat.le_refl _) fun a ha hne e => (h2 hne a ha).1 e).more hV.size
  have apart : ∀ a : Addr, a.block < w1.heap.size → (∀ z, X = some z → a.block ≠ z.block) → ∀ z, A2 = some z → a.block ≠ z.block := fun a ha h1 z hz e => by
    rcases hx2 z hz with h2 | h2
    · obtain ⟨q, hq, h3⟩ := ob_some' h2
      exact h1 q hq (e.trans h3.symm)
    · omega
  refine ⟨fun k => S k ∨ (∃ y, A2 = some y ∧ y.block = k) ∨ (BB x.b ≠ [] ∧ ∃ a, x.A = some a ∧ a.block = k), ⟨.inl hg, fun k hk => ?_, hl, A2, c2, hk2.set 0 _, ho2.upd hV fun k hq e => ?_, fun y hy => ⟨.inr (.inl ⟨y, hy, rfl⟩), (hA2 y hy).1⟩, fun y hy => ?_⟩, (hu2 S fun k hk => (hXS k hk).1).setCell (p := ⟨g, 0, none⟩) (.inl hg) _, fun k hk => ?_⟩
  · refine Nat.lt_of_lt_of_le ?_ hV.size
    rcases hk with h1 | ⟨y, hy, rfl⟩ | ⟨hne, a, ha, rfl⟩
    · exact Nat.lt_of_lt_of_le (hS k h1) U.size
    · exact (hA2 y hy).2
    · exact Nat.lt_of_lt_of_le (hxlt hne a ha) U.size
  · obtain ⟨y, hy, h1⟩ := ob_some' hq
    exact (hA2 y hy).1 (h1.trans e)
  · rw [hr] at hy
    rcases List.mem_append.1 hy with h2 | h2
    · obtain ⟨a1, a2, a3⟩ := hm y h2
      refine ⟨a1, stay y a2 fun hne a ha => ⟨(a3 hne a ha).2.1, (a3 hne a ha).2.2⟩, fun hne a ha => ⟨.inl (a3 hne a ha).1, (a3 hne a ha).2.1, apart a (hS _ (a3 hne a ha).1) (a3 hne a ha).2.2⟩⟩
    · obtain rfl : y = x := by simpa using h2
      have h3 : BB y.b ≠ [] → ∀ a, y.A = some a → a.block ≠ g ∧ (∀ z, X = some z → a.block ≠ z.block) := fun hne a ha => ⟨fun e => (hfr hne a ha).1 (e ▸ hg), fun z hz e => (hfr hne a ha).1 (e ▸ (hX z hz).1)⟩
      exact ⟨hok, stay y hrd h3, fun hne a ha => ⟨.inr (.inr ⟨hne, a, ha, rfl⟩), (h3 hne a ha).1, apart a (hxlt hne a ha) (h3 hne a ha).2⟩⟩
  · rcases hk with h1 | ⟨y, hy, rfl⟩ | ⟨hne, a, ha, rfl⟩
    · exact .inl h1
    · rcases hx2 y hy with h1 | h1
      · exact .inl (hXS _ h1).1
      · exact .inr (Nat.le_trans hn0 h1)
    · exact .inr (hfr hne a ha).2
/-- what an append of a message gives, in the world W3 ahead of it -/
theorem app_fin {w W3 : World} {S : Nat → Prop} {g : Nat} {xs : List OneM} {x : OneM} {X : Option Addr} {cx : Nat} (h : Nst w S g xs) (hX : w.cell? ⟨g, 0, none⟩ = some (.slice X xs.length cx)) (hb : Below w.heap.size w W3) (hl : xs.length < 512)
    (hok : x.msg.Ok) (hrd : Rd W3 W3.heap.size x.A (BB x.b)) (hfr : BB x.b ≠ [] → ∀ a, x.A = some a → w.heap.size ≤ a.block) :
    oneE.Own W3 0 98 (.slice X xs.length cx) xs ∧ ∀ A3 c3 w3 r3, r3 = xs ++ [x] → oneE.Own w3 0 98 (.slice A3 r3.length c3) r3 → (∀ S : Nat → Prop, (∀ k, (Value.slice X xs.length cx).ownBlock = some k → S k) → Upd S W3 w3) →
      (∀ y, A3 = some y → (Value.slice X xs.length cx).ownBlock = some y.block ∨ W3.heap.size ≤ y.block) → (w3.cell? ⟨g, 0, none⟩ = some (.slice X xs.length cx) ∧ w3.frozen? ⟨g, 0, none⟩ = false ∧ g < w3.heap.size ∧ r3.length = xs.length + 1) ∧
        ∃ S', Nst (w3.setCell ⟨g, 0, none⟩ (.slice A3 r3.length c3)) S' g r3 ∧ Goes S w S' (w3.setCell ⟨g, 0, none⟩ (.slice A3 r3.length c3)) := by
  obtain ⟨hg, hS, -, X', c', hk, ho, hXs, hm⟩ := h.next hb
  have hk0 : w.cell? ⟨g, 0, none⟩ = some (.slice X' xs.length c') := by
    rw [← hb.cell (p := ⟨g, 0, none⟩) (h.2.1 g hg)]; exact hk.cell rfl
  rw [hk0] at hX
  injection hX with hX
  injection hX with e1 e2 e3
  subst e1 e3
  refine ⟨ho, fun A3 c3 w3 r3 hr ho3 hu3 hx3 => ?_⟩
  have hrl : r3.length = xs.length + 1 := by rw [hr]; simp
  have U := hu3 (fun k => (Value.slice X' xs.length c').ownBlock = some k) fun _ h => h
  have hk3 := hk.upd U fun e => by
    obtain ⟨x, hx, h1⟩ := ob_some' e
    exact (hXs x hx).2 h1
  obtain ⟨S', h1, h2, h3⟩ := nst_add (n0 := w.heap.size) hg hS hk ho hXs hm hr (by omega) hok hrd hb.size (fun hne a ha => ⟨fun e => by have := h.2.1 _ e; have := hfr hne a ha; omega, hfr hne a ha⟩) ho3 hu3 hx3
  exact ⟨⟨hk3.cell rfl, hk3.frozen 0, hk3.lt, hrl⟩, S', h1, (Upd.of_below hb).trans h2, h3⟩
theorem new_any (w : World) : Calls Try.prog 19 #[] w fun e w' => e = .returned (.pointer (some ⟨w.heap.size, 0, none⟩)) ∧ Nst w' (fun k => k = w.heap.size) w.heap.size [] ∧ Below w.heap.size w w' := by
  have hP : Nst (w.alloc (.cells #[.slice none 0 0] 80)) (fun k => k = w.heap.size) w.heap.size [] := ⟨rfl, (fun k hk => by subst hk; simp), by simp, none, 0, Blk.new w [.slice none 0 0] _, Elem.Own.nilv _ _ _ _, (fun x hx => by cases hx), fun x hx => by cases hx⟩
  go_enter Try.func19, Try.ntmps19
  go_wp2
  go_ret
  exact ⟨rfl, hP, (Below.refl _ _).alloc (Nat.le_refl _) _⟩
set_option maxRecDepth 100000 in
theorem send_nil (to : Int) (A : Option Addr) (n c : Nat) (w : World) : Calls Try.prog 23 #[.pointer none, .int .i64 to, .slice A n c] w fun e w' => e = .returned (.int .i64 1) ∧ w = w' := by
  go_enter Try.func23, Try.ntmps23
  go_wp2
  go_ret
  exact ⟨rfl, rfl⟩
set_option maxRecDepth 100000 in
theorem send_full (S : Nat → Prop) (g : Nat) (xs : List OneM) (to : Int) (A : Option Addr) (n c : Nat) (w : World) (h : Nst w S g xs) (hl : 512 ≤ xs.length) : Calls Try.prog 23 #[.pointer (some ⟨g, 0, none⟩), .int .i64 to, .slice A n c] w fun e w' => e = .returned (.int .i64 8) ∧ w = w' := by
  obtain ⟨-, -, -, X, cx, hb, -⟩ := h
  have h0 : w.cell? ⟨g, 0, none⟩ = some (.slice X xs.length cx) := hb.cell rfl
  have hlt := hb.lt
  clear hb
  generalize xs.length = N at *
  go_enter Try.func23, Try.ntmps23
  go_wp2
  go_ret
  exact ⟨rfl, rfl⟩
set_option maxRecDepth 100000 in
set_option maxHeartbeats 4000000 in
theorem send_yes (S : Nat → Prop) (g : Nat) (xs : List OneM) (to : Int) (A : Option Addr) (n c : Nat) (b : List Nat) (w : World) (h : Nst w S g xs) (hl : xs.length < 512) (hn : n = b.length) (hr : Rd w w.heap.size A (BB b)) (hok : (⟨to, b, false⟩ : MsgM).Ok) :
    Calls Try.prog 23 #[.pointer (some ⟨g, 0, none⟩), .int .i64 to, .slice A n c] w fun en w' => en = .returned (.int .i64 0) ∧ ∃ S' A' c', Nst w' S' g (xs ++ [⟨to, A', b, c', false⟩]) ∧ Goes S w S' w' := by
  subst hn
  have CT := kept (fun W (hb : Below w.heap.size w W) => bclone_any A b.length c b W rfl (hr.next hb) (by have := hok.2.1; exact Nat.le_trans this (by decide)))
  have HP0 := kept h
  have HOK := kept hok
  obtain ⟨hg, hS, -, X, cx, hb, -⟩ := h
  have h0 : w.cell? ⟨g, 0, none⟩ = some (.slice X xs.length cx) := hb.cell rfl
  have hlt := hb.lt
  have hbd : Below w.heap.size w w.drew := (Below.refl _ _).drew
  have HGK := kept hb.drew
  have HFIN := kept (fun (A2 : Option Addr) (c2 : Nat) (w2 : World) (hb2 : Below w.drew.heap.size w.drew w2) (ho2 : Own w2 w.drew.heap.size 5 (.slice A2 b.length c2) (BB b)) => app_fin (x := ⟨to, A2, b, c2, false⟩) HP0.out h0 ((hbd.trans (hb2.mono hbd.size)).alloc (Nat.le_trans hbd.size hb2.size) (.cells #[.int .i64 to, .slice A2 b.length c2, .bool false] 98)) hl HOK.out ((ho2.rd.alloc (Nat.le_refl _) _).more (by simp)) (fun _ a ha => (ho2.lt a.block (by show Value.ownBlock (.slice A2 _ _) = _; rw [show A2 = some a from ha]; rfl)).1))
  clear hb hr hok hS hg
  go_enter Try.func23, Try.ntmps23
  go_wp2_with fail
  go_region_law (first
    | (refine step_appEU _ oneE (by rfl) (.tmp 21) (.tmp 26) 78 (by rfl) 0 98 Try.underlying78 one_info (by rfl) _ xs (by rfl) HOW.out _ _ _ _ [⟨to, A2, b, c2, false⟩] (by rfl) rfl hone hzz (by decide) (Nat.zero_le _) ?_; intro A3 c3 w3 r3 hr3 hown3 hu3 hx3; have hfin := HFN.out A3 c3 w3 r3 hr3.out hown3 hu3 hx3; obtain ⟨g3, f3, l3, rl3⟩ := hfin.1; have HFI := kept hfin.2; have HR3 := kept hr3.out; clear hfin hr3 hown3 hu3 hx3)
    | (go_simp; go_at_call 46; refine (CT.out _ (by assumption)).mono ?_; rintro en w2 ⟨A2, c2, rfl, ho2, hc2, hb2⟩; have gk2 := HGK.out.next hb2; have gc2 : w2.cell? ⟨g, 0, none⟩ = some (.slice X xs.length cx) := gk2.cell rfl; have gl2 := gk2.lt; have HOW := kept (HFIN.out A2 c2 w2 hb2 ho2).1; have HFN := kept (HFIN.out A2 c2 w2 hb2 ho2).2; have hone : oneE.Rd (w2.alloc (.cells #[.int .i64 to, .slice A2 b.length c2, .bool false] 98)) (w2.heap.size + 1) (some ⟨w2.heap.size, 0, none⟩) [⟨to, A2, b, c2, false⟩] := Rd.new w2 (OneM.cells ⟨to, A2, b, c2, false⟩) 98; have hzz : (xs.length + [(⟨to, A2, b, c2, false⟩ : OneM)].length) * 40 ≤ 140737488355328 := by (simp; omega)))
  all_goals
    obtain ⟨S', hP, hG⟩ := HFI.out
    rw [rl3] at hP hG
    rw [HR3.out] at hP
    have HP3 := kept hP
    have HG3 := kept hG
    clear hP hG HFI
    go_wp2
    go_ret
    exact ⟨rfl, S', A2, c2, HP3.out, HG3.out⟩
end Go.Proofs.Ytpckfnafcmifpaa.Net
