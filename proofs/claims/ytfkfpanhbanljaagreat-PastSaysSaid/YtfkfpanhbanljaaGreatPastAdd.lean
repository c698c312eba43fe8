/- Layer 41 (past): New, Add, Event. -/
import Derived.Test.YtfkfpanhbanljaaGreatSetD
import Derived.Test.YtfkfpanhbanljaaGreatSetAA
import Derived.Deep.RegionLaw
namespace Go.Proofs.YtfkfpanhbanljaaGreat.Past
open Go.RowKit Go.Proofs.YtfkfpanhbanljaaGreat.Mem Go.Proofs.YtfkfpanhbanljaaGreat.Mask

theorem pst_add {w1 w2 : World} {S : Nat → Prop} {g : Nat} {fs r : List FactM} {f : FactM} {X A2 : Option Addr} {c c2 : Nat} (hg : S g) (hS : ∀ k, S k → k < w1.heap.size) (hf : ∀ f ∈ fs, f.Ok w1) (hk : Blk w1 g [.slice X fs.length c] 63)
    (ho : factE.Own w1 0 65 (.slice X fs.length c) fs) (hX : ∀ x, X = some x → S x.block ∧ x.block ≠ g) (hr : r = fs ++ [f]) (hl : r.length ≤ 1024) (hfo : f.Ok w1)
    (ho2 : factE.Own w2 0 65 (.slice A2 r.length c2) r) (hu2 : ∀ S : Nat → Prop, (∀ k, (Value.slice X fs.length c).ownBlock = some k → S k) → Upd S w1 w2)
    (hx2 : ∀ x, A2 = some x → (Value.slice X fs.length c).ownBlock = some x.block ∨ w1.heap.size ≤ x.block) :
    Pst (w2.setCell ⟨g, 0, none⟩ (.slice A2 r.length c2)) (fun k => S k ∨ ∃ x, A2 = some x ∧ x.block = k) g r ∧ Goes S w1 (fun k => S k ∨ ∃ x, A2 = some x ∧ x.block = k) (w2.setCell ⟨g, 0, none⟩ (.slice A2 r.length c2)) := by
  have U := hu2 (fun k => (Value.slice X fs.length c).ownBlock = some k) fun _ h => h
  have hXS : ∀ k, (Value.slice X fs.length c).ownBlock = some k → S k ∧ k ≠ g := fun k hk => by
    obtain ⟨x, hx, rfl⟩ := ob_some' hk
    exact hX x hx
  have hgl := hk.lt
  have hk2 := hk.upd U fun e => (hXS g e).2 rfl
  have hV : Upd (fun k => k = g) w2 (w2.setCell ⟨g, 0, none⟩ (.slice A2 r.length c2)) := (Upd.refl (fun k => k = g) w2).setCell (p := ⟨g, 0, none⟩) (.inl rfl) _
  have hA2 : ∀ x, A2 = some x → x.block ≠ g ∧ x.block < w2.heap.size := fun x hx => by
    refine ⟨?_, ?_⟩
    · rcases hx2 x hx with h1 | h1
      · exact (hXS _ h1).2
      · omega
    · subst hx; exact (ho2.lt x.block rfl).2
  refine ⟨⟨.inl hg, fun k hk => ?_, hl, fun f' hf' => ?_, A2, c2, hk2.set 0 _, ho2.upd hV fun k hq e => ?_, fun x hx => ⟨.inr ⟨x, hx, rfl⟩, (hA2 x hx).1⟩⟩, (hu2 S fun k hk => (hXS k hk).1).setCell (p := ⟨g, 0, none⟩) (.inl hg) _, fun k hk => ?_⟩
  · refine Nat.lt_of_lt_of_le ?_ hV.size
    rcases hk with h1 | ⟨x, hx, rfl⟩
    · exact Nat.lt_of_lt_of_le (hS k h1) U.size
    · exact (hA2 x hx).2
  · have h1 : f'.Ok w1 := by
      rw [hr] at hf'
      rcases List.mem_append.1 hf' with h2 | h2
      · exact hf f' h2
      · obtain rfl : f' = f := by simpa using h2
        exact hfo
    obtain ⟨a1, a2, a3⟩ := h1
    have a4 : Own w2 0 33 (.slice f'.A f'.m.length f'.c) (WB f'.m) := a2.upd U (own_apart a2 ho (by decide))
    exact ⟨a1, a4.upd hV fun k hk e => own_off a4 hk2 (by decide) k hk e, a3⟩
  · obtain ⟨x, hx, h1⟩ := ob_some' hq
    exact (hA2 x hx).1 (h1.trans e)
  · rcases hk with h1 | ⟨x, hx, rfl⟩
    · exact .inl h1
    · rcases hx2 x hx with h1 | h1
      · exact .inl (hXS _ h1).1
      · exact .inr h1
theorem new_any (w : World) : Calls Tryz.prog 6 #[] w fun e w' => e = .returned (.pointer (some ⟨w.heap.size, 0, none⟩)) ∧ Pst w' (fun k => k = w.heap.size) w.heap.size [] ∧ Below w.heap.size w w' := by
  have hP : Pst (w.alloc (.cells #[.slice none 0 0] 63)) (fun k => k = w.heap.size) w.heap.size [] := ⟨rfl, (fun k hk => by subst hk; simp), by simp, (fun f hf => by cases hf), none, 0, Blk.new w [.slice none 0 0] _, Elem.Own.nilv _ _ _ _, fun x hx => by cases hx⟩
  go_enter Tryz.func6, Tryz.ntmps6
  go_wp2
  go_ret
  exact ⟨rfl, hP, (Below.refl _ _).alloc (Nat.le_refl _) _⟩
/-- the value of an event -/
def EvM.val (e : EvM) : Value := .agg #[.int .u16 (e.dev : Int), .int .u64 (e.n : Int), .int .u8 (e.kind : Int), .int .u64 (e.cid : Int), .int .u8 (e.field : Int), .string e.text, .slice e.kA e.kn e.kc]
set_option maxRecDepth 100000 in
theorem event_in (S : Nat → Prop) (g : Nat) (fs : List FactM) (i : Nat) (f : FactM) (w : World) (h : Pst w S g fs) (hf : fs[i]? = some f) :
    Calls Tryz.prog 10 #[.pointer (some ⟨g, 0, none⟩), .int .i64 (i : Int)] w fun e w' => e = .returned (.tuple #[f.e.val, .bool true]) ∧ Below w.heap.size w w' := by
  have hi : i < fs.length := (List.getElem?_eq_some_iff.1 hf).1
  have CN : Kept (∀ W, Below w.heap.size w W → Calls Tryz.prog 24 #[.pointer (some ⟨g, 0, none⟩), .int .i64 (i : Int)] W fun e w' => e = .returned (.bool true) ∧ W = w') := ⟨fun W hb => by
    have := is_any _ fs.length (i : Int) W (h.next hb).len
    rwa [decide_eq_true ⟨by omega, by omega⟩] at this⟩
  obtain ⟨X, c, bl, o, rfl, hg, hbl, hgl, ⟨a0, a1, a2, a3, a4, a5, a6, a7⟩, hak⟩ := h.spot hf
  have h1024 := h.2.2.1
  clear h hf
  obtain ⟨⟨adev, an, akind, acid, afield, atext, akA, akn, akc⟩, aA, am, ac⟩ := f
  obtain ⟨⟨e1, e2, e3⟩, -⟩ := hak
  dsimp only at e1 e2 e3
  subst e1 e2 e3
  dsimp only at *
  have hi2 : (i : Int) < (fs.length : Int) := by omega
  have hi3 : (0 : Int) ≤ (i : Int) := by omega
  go_enter Tryz.func10, Tryz.ntmps10
  go_wp2_with fail
  refine (CN.out _ ((Below.refl _ _).alloc (Nat.le_refl _) _)).mono ?_
  rintro e w' ⟨rfl, hw'⟩
  subst hw'
  go_wp2
  exact bodyPost_ret (res_cell_tmp rfl _ w.heap.size _ [.int .u16 (adev : Int), .int .u64 (an : Int), .int .u8 (akind : Int), .int .u64 (acid : Int), .int .u8 (afield : Int), .string atext, .slice none 0 0] _ rfl (Blk.new w _ _) rfl rfl rfl) rfl ⟨rfl, (Below.refl _ _).alloc (Nat.le_refl _) _⟩
/-- a fact more: what it saw in a slice of the past's own -/
def addF (fs : List FactM) (e : EvM) (m : List Nat) (A : Option Addr) (c : Nat) : List FactM := fs ++ [⟨⟨e.dev, e.n, e.kind, e.cid, e.field, e.text, none, 0, 0⟩, A, thereM fs.length m, c⟩]
def addOk (fs : List FactM) (e : EvM) : Prop := (e.kind = 1 ∨ e.kind = 2) ∧ fs.length < 1024
set_option maxRecDepth 100000 in
theorem add_nil (e : EvM) (A : Option Addr) (n c : Nat) (w : World) :
    Calls Tryz.prog 7 #[.pointer none, e.val, .slice A n c] w fun en w' => en = .returned (.tuple #[.int .i64 0, .int .i64 1]) ∧ Below w.heap.size w w' := by
  obtain ⟨dev, ne, kind, cid, field, text, kA, kn, kc⟩ := e
  try dsimp only at *
  show Calls Tryz.prog 7 #[.pointer none, .agg #[.int .u16 (dev : Int), .int .u64 (ne : Int), .int .u8 (kind : Int), .int .u64 (cid : Int), .int .u8 (field : Int), .string text, .slice kA kn kc], .slice A n c] w _
  go_enter Tryz.func7, Tryz.ntmps7
  go_wp2
  all_goals go_ret2
  all_goals exact ⟨rfl, (Below.refl _ _).alloc (Nat.le_refl _) _⟩
set_option maxRecDepth 100000 in
theorem add_bad (g : Nat) (e : EvM) (A : Option Addr) (n c : Nat) (w : World)(hk : ¬ (e.kind = 1 ∨ e.kind = 2)) :
    Calls Tryz.prog 7 #[.pointer (some ⟨g, 0, none⟩), e.val, .slice A n c] w fun en w' => en = .returned (.tuple #[.int .i64 0, .int .i64 1]) ∧ Below w.heap.size w w' := by
  obtain ⟨dev, ne, kind, cid, field, text, kA, kn, kc⟩ := e
  try dsimp only at *
  show Calls Tryz.prog 7 #[.pointer (some ⟨g, 0, none⟩), .agg #[.int .u16 (dev : Int), .int .u64 (ne : Int), .int .u8 (kind : Int), .int .u64 (cid : Int), .int .u8 (field : Int), .string text, .slice kA kn kc], .slice A n c] w _
  have hk1 : ((kind : Int) != 1) = true := by simp; omega
  have hk2 : ((kind : Int) != 2) = true := by simp; omega
  clear hk
  go_enter Tryz.func7, Tryz.ntmps7
  go_wp2
  all_goals go_ret2
  all_goals exact ⟨rfl, (Below.refl _ _).alloc (Nat.le_refl _) _⟩
set_option maxRecDepth 100000 in
theorem add_full (S : Nat → Prop) (g : Nat) (fs : List FactM) (e : EvM) (A : Option Addr) (n c : Nat) (w : World)(h : Pst w S g fs) (hk : e.kind = 1 ∨ e.kind = 2) (hl : 1024 ≤ fs.length) :
    Calls Tryz.prog 7 #[.pointer (some ⟨g, 0, none⟩), e.val, .slice A n c] w fun en w' => en = .returned (.tuple #[.int .i64 0, .int .i64 8]) ∧ Below w.heap.size w w' := by
  obtain ⟨dev, ne, kind, cid, field, text, kA, kn, kc⟩ := e
  try dsimp only at *
  show Calls Tryz.prog 7 #[.pointer (some ⟨g, 0, none⟩), .agg #[.int .u16 (dev : Int), .int .u64 (ne : Int), .int .u8 (kind : Int), .int .u64 (cid : Int), .int .u8 (field : Int), .string text, .slice kA kn kc], .slice A n c] w _
  obtain ⟨-, -, -, -, X, cx, hb, -⟩ := h
  have h0 : w.cell? ⟨g, 0, none⟩ = some (.slice X fs.length cx) := hb.cell rfl
  have hlt := hb.lt
  clear hb
  generalize fs.length = N at *
  rcases hk with rfl | rfl
  all_goals
    go_enter Tryz.func7, Tryz.ntmps7
    go_wp2
    go_ret2
    exact ⟨rfl, (Below.refl _ _).alloc (Nat.le_refl _) _⟩
/-- what an append of a fact gives, in the world W3 ahead of it -/
theorem app_fin {w W3 : World} {S : Nat → Prop} {g : Nat} {fs : List FactM} {f : FactM} {X : Option Addr} {cx : Nat} (h : Pst w S g fs) (hX : w.cell? ⟨g, 0, none⟩ = some (.slice X fs.length cx)) (hb : Below w.heap.size w W3) (hl : fs.length < 1024) (hfo : f.Ok W3) :
    factE.Own W3 0 65 (.slice X fs.length cx) fs ∧ ∀ A3 c3 w3 r3, r3 = fs ++ [f] → factE.Own w3 0 65 (.slice A3 r3.length c3) r3 → (∀ S : Nat → Prop, (∀ k, (Value.slice X fs.length cx).ownBlock = some k → S k) → Upd S W3 w3) →
      (∀ x, A3 = some x → (Value.slice X fs.length cx).ownBlock = some x.block ∨ W3.heap.size ≤ x.block) → (w3.cell? ⟨g, 0, none⟩ = some (.slice X fs.length cx) ∧ w3.frozen? ⟨g, 0, none⟩ = false ∧ g < w3.heap.size ∧ r3.length = fs.length + 1) ∧
        ∃ S', Pst (w3.setCell ⟨g, 0, none⟩ (.slice A3 r3.length c3)) S' g r3 ∧ Goes S w S' (w3.setCell ⟨g, 0, none⟩ (.slice A3 r3.length c3)) := by
  obtain ⟨hg, hS, -, hf, X', c', hk, ho, hXs⟩ := h.next hb
  have hk0 : w.cell? ⟨g, 0, none⟩ = some (.slice X' fs.length c') := by
    rw [← hb.cell (p := ⟨g, 0, none⟩) (h.2.1 g hg)]; exact hk.cell rfl
  rw [hk0] at hX
  injection hX with hX
  injection hX with e1 e2 e3
  subst e1 e3
  refine ⟨ho, fun A3 c3 w3 r3 hr ho3 hu3 hx3 => ?_⟩
  have hrl : r3.length = fs.length + 1 := by rw [hr]; simp
  have U := hu3 (fun k => (Value.slice X' fs.length c').ownBlock = some k) fun _ h => h
  have hk3 := hk.upd U fun e => by
    obtain ⟨x, hx, h1⟩ := ob_some' e
    exact (hXs x hx).2 h1
  obtain ⟨h1, h2⟩ := pst_add hg hS hf hk ho hXs hr (by omega) hfo ho3 hu3 hx3
  exact ⟨⟨hk3.cell rfl, hk3.frozen 0, hk3.lt, hrl⟩, _, h1, Goes.trans (S1 := S) ⟨Upd.of_below hb, fun _ e => .inl e⟩ h2⟩
set_option maxRecDepth 100000 in
set_option maxHeartbeats 4000000 in
theorem add_yes (S : Nat → Prop) (g : Nat) (fs : List FactM) (e : EvM) (A : Option Addr) (n c : Nat) (m : List Nat) (w : World) (h : Pst w S g fs) (hok : addOk fs e) (hn : n = m.length) (hw : AllW m) (hr : Rd w w.heap.size A (WB m)) (hsz : m.length ≤ 1000000) :
    Calls Tryz.prog 7 #[.pointer (some ⟨g, 0, none⟩), e.val, .slice A n c] w fun en w' => en = .returned (.tuple #[.int .i64 (fs.length : Int), .int .i64 0]) ∧ ∃ S' A' c', Pst w' S' g (addF fs e m A' c') ∧ Goes S w S' w' ∧ ∀ x, A' = some x → w.heap.size ≤ x.block := by
  obtain ⟨dev, ne, kind, cid, field, text, kA, kn, kc⟩ := e
  obtain ⟨hkd, hl⟩ := hok
  dsimp only at hkd
  have CT := kept (fun W (hb : Below w.heap.size w W) => there_any _ fs.length A n c m W (h.next hb).len hn hw (hr.next hb) hsz)
  have hta := (there_all fs.length m)
  have HTA := kept hta
  have HADD : Kept (∀ A' c', addF fs ⟨dev, ne, kind, cid, field, text, kA, kn, kc⟩ m A' c' = fs ++ [⟨⟨dev, ne, kind, cid, field, text, none, 0, 0⟩, A', thereM fs.length m, c'⟩]) := ⟨fun _ _ => rfl⟩
  generalize addF fs ⟨dev, ne, kind, cid, field, text, kA, kn, kc⟩ m = ad at *
  generalize thereM fs.length m = s at *
  have HP0 := kept h
  obtain ⟨hg, hS, -, hf, X, cx, hb, hown, hX⟩ := h
  have h0 : w.cell? ⟨g, 0, none⟩ = some (.slice X fs.length cx) := hb.cell rfl
  have hlt := hb.lt
  clear hr hta hn
  show Calls Tryz.prog 7 #[.pointer (some ⟨g, 0, none⟩), .agg #[.int .u16 (dev : Int), .int .u64 (ne : Int), .int .u8 (kind : Int), .int .u64 (cid : Int), .int .u8 (field : Int), .string text, .slice kA kn kc], .slice A n c] w _
  rcases hkd with rfl | rfl
  · have HK1 : Kept (Blk (w.alloc (.cells #[.int .u16 (dev : Int), .int .u64 (ne : Int), .int .u8 1, .int .u64 (cid : Int), .int .u8 (field : Int), .string text, .slice none 0 0] 38)) w.heap.size [.int .u16 (dev : Int), .int .u64 (ne : Int), .int .u8 1, .int .u64 (cid : Int), .int .u8 (field : Int), .string text, .slice none 0 0] 38) := ⟨Blk.new w _ _⟩
    have HB1 : Kept (Below w.heap.size w (w.alloc (.cells #[.int .u16 (dev : Int), .int .u64 (ne : Int), .int .u8 1, .int .u64 (cid : Int), .int .u8 (field : Int), .string text, .slice none 0 0] 38))) := ⟨(Below.refl _ _).alloc (Nat.le_refl _) _⟩
    go_enter Tryz.func7, Tryz.ntmps7
    go_wp2_with fail
    generalize w.alloc (.cells #[.int .u16 (dev : Int), .int .u64 (ne : Int), .int .u8 1, .int .u64 (cid : Int), .int .u8 (field : Int), .string text, .slice none 0 0] 38) = w1 at *
    have hbd : Below w.heap.size w w1.drew := HB1.out.drew
    have hc1 : w1.cell? ⟨g, 0, none⟩ = some (.slice X fs.length cx) := (hb.next HB1.out).cell rfl
    have hg1 : g < w1.heap.size := (hb.next HB1.out).lt
    have hl1 := HK1.out.lt
    have e0 := HK1.out.cell (j := 0) rfl; have e1 := HK1.out.cell (j := 1) rfl; have e2 := HK1.out.cell (j := 2) rfl; have e3 := HK1.out.cell (j := 3) rfl; have e4 := HK1.out.cell (j := 4) rfl; have e5 := HK1.out.cell (j := 5) rfl; have e6 := HK1.out.cell (j := 6) rfl
    have HFIN := kept (fun (A2 : Option Addr) (c2 : Nat) (w2 : World) (hb2 : Below w1.drew.heap.size w1.drew w2) (ho2 : Own w2 w1.drew.heap.size 33 (.slice A2 s.length c2) (WB s)) => app_fin (f := ⟨⟨dev, ne, 1, cid, field, text, none, 0, 0⟩, A2, s, c2⟩) HP0.out h0 ((hbd.trans (hb2.mono hbd.size)).alloc (Nat.le_trans hbd.size hb2.size) (.cells #[.int .u16 (dev : Int), .int .u64 (ne : Int), .int .u8 1, .int .u64 (cid : Int), .int .u8 (field : Int), .string text, .slice none 0 0, .slice A2 s.length c2] 65)) hl ⟨⟨rfl, rfl, rfl⟩, (ho2.mono (Nat.zero_le _)).alloc _, HTA.out⟩)
    have HHI := kept (fun (A2 : Option Addr) (c2 : Nat) (w2 : World) (ho2 : Own w2 w1.drew.heap.size 33 (.slice A2 s.length c2) (WB s)) (x : Addr) (hx : A2 = some x) => show w.heap.size ≤ x.block from Nat.le_trans hbd.size (ho2.lt x.block (by rw [hx]; rfl)).1)
    have HGK := kept ((hb.next HB1.out).drew)
    have HEK := kept HK1.out.drew
    clear hb hown hX hf hS hg
    go_region_law (first
      | (refine step_appEU _ factE (by rfl) (.tmp 33) (.tmp 39) 61 (by rfl) 0 65 Tryz.underlying61 fact_info (by rfl) _ fs (by rfl) HOW.out _ _ _ _ [⟨⟨dev, ne, 1, cid, field, text, none, 0, 0⟩, A2, s, c2⟩] (by rfl) rfl hone hzz (by decide) (Nat.zero_le _) ?_; intro A3 c3 w3 r3 hr3 hown3 hu3 hx3; have hfin := HFN.out A3 c3 w3 r3 hr3.out hown3 hu3 hx3; obtain ⟨g3, f3, l3, rl3⟩ := hfin.1; have HFI := kept hfin.2; have HR3 := kept hr3.out; clear hfin hr3 hown3 hu3 hx3)
      | (go_simp; go_at_call 22; refine (CT.out _ (by assumption)).mono ?_; rintro en w2 ⟨A2, c2, rfl, ho2, hc2, hb2⟩; have hk2 := HEK.out.next hb2; have x0 := hk2.cell (j := 0) rfl; have x1 := hk2.cell (j := 1) rfl; have x2 := hk2.cell (j := 2) rfl; have x3 := hk2.cell (j := 3) rfl; have x4 := hk2.cell (j := 4) rfl; have x5 := hk2.cell (j := 5) rfl; have x6 := hk2.cell (j := 6) rfl; have hl2 := hk2.lt; have gk2 := HGK.out.next hb2; have gc2 : w2.cell? ⟨g, 0, none⟩ = some (.slice X fs.length cx) := gk2.cell rfl; have gl2 := gk2.lt; have HOW := kept (HFIN.out A2 c2 w2 hb2 ho2).1; have HFN := kept (HFIN.out A2 c2 w2 hb2 ho2).2; have HHX := kept (HHI.out A2 c2 w2 ho2); have hone : factE.Rd (w2.alloc (.cells #[.int .u16 (dev : Int), .int .u64 (ne : Int), .int .u8 1, .int .u64 (cid : Int), .int .u8 (field : Int), .string text, .slice none 0 0, .slice A2 s.length c2] 65)) (w2.heap.size + 1) (some ⟨w2.heap.size, 0, none⟩) [⟨⟨dev, ne, 1, cid, field, text, none, 0, 0⟩, A2, s, c2⟩] := Rd.new w2 (FactM.cells ⟨⟨dev, ne, 1, cid, field, text, none, 0, 0⟩, A2, s, c2⟩) 65; have hzz : (fs.length + [(⟨⟨dev, ne, 1, cid, field, text, none, 0, 0⟩, A2, s, c2⟩ : FactM)].length) * 104 ≤ 140737488355328 := by (simp; omega)))
    all_goals
      obtain ⟨S', hP, hG⟩ := HFI.out
      rw [rl3] at hP hG
      rw [HR3.out] at hP
      have HP3 := kept hP
      have HG3 := kept hG
      have hr0 : (0 : Int) ≤ (fs.length : Int) := by omega
      have hr1 : (fs.length : Int) < 1024 := by omega
      clear hP hG HFI
      go_wp2
      go_ret2
      exact ⟨rfl, S', A2, c2, by rw [HADD.out]; exact HP3.out, HG3.out, HHX.out⟩
  · have HK1 : Kept (Blk (w.alloc (.cells #[.int .u16 (dev : Int), .int .u64 (ne : Int), .int .u8 2, .int .u64 (cid : Int), .int .u8 (field : Int), .string text, .slice none 0 0] 38)) w.heap.size [.int .u16 (dev : Int), .int .u64 (ne : Int), .int .u8 2, .int .u64 (cid : Int), .int .u8 (field : Int), .string text, .slice none 0 0] 38) := ⟨Blk.new w _ _⟩
    have HB1 : Kept (Below w.heap.size w (w.alloc (.cells #[.int .u16 (dev : Int), .int .u64 (ne : Int), .int .u8 2, .int .u64 (cid : Int), .int .u8 (field : Int), .string text, .slice none 0 0] 38))) := ⟨(Below.refl _ _).alloc (Nat.le_refl _) _⟩
    go_enter Tryz.func7, Tryz.ntmps7
    go_wp2_with fail
    generalize w.alloc (.cells #[.int .u16 (dev : Int), .int .u64 (ne : Int), .int .u8 2, .int .u64 (cid : Int), .int .u8 (field : Int), .string text, .slice none 0 0] 38) = w1 at *
    have hbd : Below w.heap.size w w1.drew := HB1.out.drew
    have hc1 : w1.cell? ⟨g, 0, none⟩ = some (.slice X fs.length cx) := (hb.next HB1.out).cell rfl
    have hg1 : g < w1.heap.size := (hb.next HB1.out).lt
    have hl1 := HK1.out.lt
    have e0 := HK1.out.cell (j := 0) rfl; have e1 := HK1.out.cell (j := 1) rfl; have e2 := HK1.out.cell (j := 2) rfl; have e3 := HK1.out.cell (j := 3) rfl; have e4 := HK1.out.cell (j := 4) rfl; have e5 := HK1.out.cell (j := 5) rfl; have e6 := HK1.out.cell (j := 6) rfl
    have HFIN := kept (fun (A2 : Option Addr) (c2 : Nat) (w2 : World) (hb2 : Below w1.drew.heap.size w1.drew w2) (ho2 : Own w2 w1.drew.heap.size 33 (.slice A2 s.length c2) (WB s)) => app_fin (f := ⟨⟨dev, ne, 2, cid, field, text, none, 0, 0⟩, A2, s, c2⟩) HP0.out h0 ((hbd.trans (hb2.mono hbd.size)).alloc (Nat.le_trans hbd.size hb2.size) (.cells #[.int .u16 (dev : Int), .int .u64 (ne : Int), .int .u8 2, .int .u64 (cid : Int), .int .u8 (field : Int), .string text, .slice none 0 0, .slice A2 s.length c2] 65)) hl ⟨⟨rfl, rfl, rfl⟩, (ho2.mono (Nat.zero_le _)).alloc _, HTA.out⟩)
    have HHI := kept (fun (A2 : Option Addr) (c2 : Nat) (w2 : World) (ho2 : Own w2 w1.drew.heap.size 33 (.slice A2 s.length c2) (WB s)) (x : Addr) (hx : A2 = some x) => show w.heap.size ≤ x.block from Nat.le_trans hbd.size (ho2.lt x.block (by rw [hx]; rfl)).1)
    have HGK := kept ((hb.next HB1.out).drew)
    have HEK := kept HK1.out.drew
    clear hb hown hX hf hS hg
    go_region_law (first
      | (refine step_appEU _ factE (by rfl) (.tmp 33) (.tmp 39) 61 (by rfl) 0 65 Tryz.underlying61 fact_info (by rfl) _ fs (by rfl) HOW.out _ _ _ _ [⟨⟨dev, ne, 2, cid, field, text, none, 0, 0⟩, A2, s, c2⟩] (by rfl) rfl hone hzz (by decide) (Nat.zero_le _) ?_; intro A3 c3 w3 r3 hr3 hown3 hu3 hx3; have hfin := HFN.out A3 c3 w3 r3 hr3.out hown3 hu3 hx3; obtain ⟨g3, f3, l3, rl3⟩ := hfin.1; have HFI := kept hfin.2; have HR3 := kept hr3.out; clear hfin hr3 hown3 hu3 hx3)
      | (go_simp; go_at_call 22; refine (CT.out _ (by assumption)).mono ?_; rintro en w2 ⟨A2, c2, rfl, ho2, hc2, hb2⟩; have hk2 := HEK.out.next hb2; have x0 := hk2.cell (j := 0) rfl; have x1 := hk2.cell (j := 1) rfl; have x2 := hk2.cell (j := 2) rfl; have x3 := hk2.cell (j := 3) rfl; have x4 := hk2.cell (j := 4) rfl; have x5 := hk2.cell (j := 5) rfl; have x6 := hk2.cell (j := 6) rfl; have hl2 := hk2.lt; have gk2 := HGK.out.next hb2; have gc2 : w2.cell? ⟨g, 0, none⟩ = some (.slice X fs.length cx) := gk2.cell rfl; have gl2 := gk2.lt; have HOW := kept (HFIN.out A2 c2 w2 hb2 ho2).1; have HFN := kept (HFIN.out A2 c2 w2 hb2 ho2).2; have HHX := kept (HHI.out A2 c2 w2 ho2); have hone : factE.Rd (w2.alloc (.cells #[.int .u16 (dev : Int), .int .u64 (ne : Int), .int .u8 2, .int .u64 (cid : Int), .int .u8 (field : Int), .string text, .slice none 0 0, .slice A2 s.length c2] 65)) (w2.heap.size + 1) (some ⟨w2.heap.size, 0, none⟩) [⟨⟨dev, ne, 2, cid, field, text, none, 0, 0⟩, A2, s, c2⟩] := Rd.new w2 (FactM.cells ⟨⟨dev, ne, 2, cid, field, text, none, 0, 0⟩, A2, s, c2⟩) 65; have hzz : (fs.length + [(⟨⟨dev, ne, 2, cid, field, text, none, 0, 0⟩, A2, s, c2⟩ : FactM)].length) * 104 ≤ 140737488355328 := by (simp; omega)))
    all_goals
      obtain ⟨S', hP, hG⟩ := HFI.out
      rw [rl3] at hP hG
      rw [HR3.out] at hP
      have HP3 := kept hP
      have HG3 := kept hG
      have hr0 : (0 : Int) ≤ (fs.length : Int) := by omega
      have hr1 : (fs.length : Int) < 1024 := by omega
      clear hP hG HFI
      go_wp2
      go_ret2
      exact ⟨rfl, S', A2, c2, by rw [HADD.out]; exact HP3.out, HG3.out, HHX.out⟩
end Go.Proofs.YtfkfpanhbanljaaGreat.Past
