import Derived.Test.YtnmcclkpgbdenaaChgGood
import Derived.Test.YtnmcclkpgbdenaaSet16
import Derived.BigQuiet
/- Layer 50 (change): the document's At: where a card's number stands in a list. -/
namespace Go.Proofs.Ytnmcclkpgbdenaa.Chg
open Go.RowKit Go.Proofs.Ytnmcclkpgbdenaa.Mem Go.Proofs.Ytnmcclkpgbdenaa.Card

/-- the first card of a number, or -1 -/
def idxC (t : Nat) (l : List CardM) (r : Int) : Prop := (∃ (k : Nat) (x : CardM), r = (k : Int) ∧ l[k]? = some x ∧ x.cid = t ∧ ∀ (j : Nat) (y : CardM), j < k → l[j]? = some y → y.cid ≠ t) ∨ (r = -1 ∧ ∀ (j : Nat) (y : CardM), l[j]? = some y → y.cid ≠ t)
set_option maxRecDepth 100000 in
theorem rat_any (A : Option Addr) (n c : Nat) (l : List CardM) (t : Nat) (w : World) (hn : n = l.length) (hr : RdCards w w.heap.size A l) (hsz : l.length ≤ 1000000) :
    Calls Try.prog 78 #[.slice A n c, .int .u64 (t : Int)] w fun e w' => (∃ r : Int, e = .returned (.int .i64 r) ∧ idxC t l r) ∧ w = w' := by
  subst hn
  have HR := kept hr
  clear hr
  go_enter Try.func78, Try.ntmps78
  go_wp2_with fail
  go_loopw [5] (fun i wr => ∃ k : Nat, k ≤ l.length ∧ i = .int .i64 (k : Int) ∧ w = wr ∧ Kept (∀ (j : Nat) (y : CardM), j < k → l[j]? = some y → y.cid ≠ t)) (fun i _ => l.length - (intOf i).toNat)
  case atStart => exact ⟨0, Nat.zero_le _, rfl, rfl, ⟨fun j y h => absurd h (Nat.not_lt_zero _)⟩⟩
  case round =>
    obtain ⟨k, hk, rfl, rfl, hin⟩ := hrel
    by_cases hlt : k < l.length
    · obtain ⟨x, hx⟩ : ∃ x, l[k]? = some x := ⟨_, List.getElem?_eq_getElem hlt⟩
      obtain ⟨b, o, rfl, hbb, k0, k1, hxo⟩ := HR.out.at_ hx
      have hkn : (k : Int) < (l.length : Int) := by omega
      have hk0 : (0 : Int) ≤ (k : Int) := by omega
      have hi := int_beq x.cid t
      by_cases he : x.cid = t
      · rw [decide_eq_true he] at hi
        have HY : Kept (idxC t l (k : Int)) := ⟨.inl ⟨k, x, rfl, hx, he, hin.out⟩⟩
        clear hx hin hxo he
        go_wp2_with fail
        go_ret
        exact ⟨⟨_, rfl, HY.out⟩, rfl⟩
      · rw [decide_eq_false he] at hi
        have HN : Kept (∀ (j : Nat) (y : CardM), j < k + 1 → l[j]? = some y → y.cid ≠ t) := ⟨fun j y hj hy => by
          rcases Nat.lt_or_ge j k with h1 | h1
          · exact hin.out j y h1 hy
          · obtain rfl : j = k := by omega
            rw [hx] at hy; cases hy; exact he⟩
        clear hx hin hxo he
        go_wp2_with fail
        go_roundw
        case rel => exact ⟨k + 1, by omega, by go_num, trivial, HN⟩
        case measure => simp [intOf]; omega
    · go_wp2_with fail
      go_ret
      exact ⟨⟨-1, rfl, .inr ⟨rfl, fun j y hy => hin.out j y (by have := (List.getElem?_eq_some_iff.1 hy).1; omega) hy⟩⟩, rfl⟩
end Go.Proofs.Ytnmcclkpgbdenaa.Chg

/- Layer 50 (change): the document's put. -/
namespace Go.Proofs.Ytnmcclkpgbdenaa.Chg
open Go.RowKit Go.Proofs.Ytnmcclkpgbdenaa.Mem Go.Proofs.Ytnmcclkpgbdenaa.Card

def putM (l : List CardM) (x : CardM) : List CardM := (l.filter fun y => decide (y.cid < x.cid)) ++ [x] ++ l.filter fun y => decide (x.cid < y.cid)
/-- a call gives cards in a row that nobody turns -/
def GivesC (w : World) (l : List CardM) (e : Ending) (w' : World) : Prop :=
  ∃ A c, e = .returned (.slice A (List.length l) c) ∧ l.length ≤ c ∧ RdCards w' w'.heap.size A l ∧ Below w.heap.size w w'
/-- a row of cards of the call's own, whose cards lie where they lay -/
def PutSt (w W : World) (A : Option Addr) (c : Nat) (cs : List CardM) : Prop :=
  Below w.heap.size w W ∧ cardE.Own W (w.heap.size + 1) 38 (.slice A cs.length c) cs ∧ ∀ x ∈ cs, x.Ok w w.heap.size
section
variable {w W W' : World} {A A2 : Option Addr} {c c2 : Nat} {cs r2 news : List CardM}
theorem PutSt.next (h : PutSt w W A c cs) (hb : Below W.heap.size W W') : PutSt w W' A c cs := ⟨h.1.trans (hb.mono h.1.size), h.2.1.below hb (Nat.le_refl _), h.2.2⟩
theorem PutSt.drewN (h : PutSt w W A c cs) (q : Nat) : PutSt w (W.drewN q) A c cs := ⟨below_drewN h.1 q, h.2.1, h.2.2⟩
theorem PutSt.app (h : PutSt w W A c cs) (hn : ∀ x ∈ news, x.Ok w w.heap.size) (hr : r2 = cs ++ news) (ho : cardE.Own W' (w.heap.size + 1) 38 (.slice A2 r2.length c2) r2)
    (hu : ∀ S : Nat → Prop, (∀ k, (Value.slice A cs.length c).ownBlock = some k → S k) → Upd S W W') : PutSt w W' A2 c2 r2 := by
  have hu' := hu (fun k => (Value.slice A cs.length c).ownBlock = some k) fun _ h => h
  have hlt : ∀ k, (Value.slice A cs.length c).ownBlock = some k → w.heap.size + 1 ≤ k := fun k hk => (OwnK.under h.2.1 k hk).1
  refine ⟨h.1.trans (hu'.below h.1.size fun i _ e => by have := hlt i e; omega), ho, fun x hx => ?_⟩
  rw [hr] at hx
  rcases List.mem_append.1 hx with hx | hx
  · exact h.2.2 x hx
  · exact hn x hx
theorem PutSt.box (h : PutSt w W A c cs) {g : Nat} (hg : g ≤ w.heap.size) {ces : List Value} {t : TypeId} (hk : Blk W g ces t) (hu : ∀ S : Nat → Prop, (∀ k, (Value.slice A cs.length c).ownBlock = some k → S k) → Upd S W W') : Blk W' g ces t := by
  have hu' := hu (fun k => (Value.slice A cs.length c).ownBlock = some k) fun _ h => h
  exact hk.upd hu' fun e => by have := (OwnK.under h.2.1 g e).1; omega
theorem PutSt.gives (h : PutSt w W A c cs) : GivesC w cs (.returned (.slice A cs.length c)) W :=
  ⟨A, c, rfl, h.2.1.cap, ⟨(show cardE.Rd W W.heap.size A cs from h.2.1.rd), fun x hx => (h.2.2 x hx).next h.1⟩, h.1⟩
end
theorem take_filter {α : Type} (p : α → Bool) {l : List α} {j : Nat} {x : α} (hx : l[j]? = some x) : (l.take (j + 1)).filter p = (l.take j).filter p ++ (if p x then [x] else []) := by
  obtain ⟨h1, h2⟩ := List.getElem?_eq_some_iff.1 hx
  rw [List.take_succ_eq_append_getElem h1, h2, List.filter_append]
  simp [List.filter_cons]
theorem filter_len {α : Type} (p : α → Bool) (l : List α) (k : Nat) : ((l.take k).filter p).length ≤ l.length := by
  have h1 := List.length_filter_le p (l.take k)
  have h2 : (l.take k).length ≤ l.length := by rw [List.length_take]; omega
  omega
set_option maxRecDepth 100000 in
set_option maxHeartbeats 2000000 in
theorem rput_any (X : Option Addr) (l : List CardM) (ca : Nat) (x : CardM) (w : World) (hr : RdCards w w.heap.size X l) (hx : x.Ok w w.heap.size) (hsz : l.length ≤ 100000) :
    Calls Try.prog 79 #[.slice X l.length ca, x.val] w (GivesC w (putM l x)) := by
  have HR := kept hr
  have HX := kept hx
  have HS : Kept (PutSt w (w.alloc (.cells x.cells.toArray 38)) none 0 [] ∧ Blk (w.alloc (.cells x.cells.toArray 38)) w.heap.size x.cells 38) := ⟨⟨(Below.refl _ _).alloc (Nat.le_refl _) _, Elem.Own.nilv _ _ _ _, fun x hx => by cases hx⟩, Blk.new w x.cells _⟩
  have HP : Kept (∀ c' : List CardM, c' = ((l.filter fun y => decide (y.cid < x.cid)) ++ [x] ++ l.filter fun y => decide (x.cid < y.cid)) → putM l x = c') := ⟨fun c' h => by rw [h]; rfl⟩
  clear hr hx
  generalize putM l x = PM at *
  obtain ⟨xcid, xX, xls, xc⟩ := x
  unfold CardM.val
  dsimp only at HP ⊢
  go_enter Try.func79, Try.ntmps79
  go_wp2_with fail
  go_loopw [5, 6] (fun s i wr => ∃ (k : Nat) (A : Option Addr) (c : Nat) (cs : List CardM), k ≤ l.length ∧ s = .slice A cs.length c ∧ i = .int .i64 (k : Int) ∧ Kept (cs = (l.take k).filter (fun y => decide (y.cid < xcid)) ∧ PutSt w wr A c cs ∧ Blk wr w.heap.size [.int .u64 (xcid : Int), .slice xX xls.length xc] 38)) (fun _ i _ => l.length - (intOf i).toNat)
  case atStart => exact ⟨0, none, 0, [], Nat.zero_le _, rfl, rfl, ⟨by simp, HS.out.1, HS.out.2⟩⟩
  case round =>
    obtain ⟨k, A, c, cs, hk, rfl, rfl, hin⟩ := hrel
    have HI := kept hin.out.2.1
    have HK := kept hin.out.2.2
    have HCS := kept hin.out.1
    clear hin HS
    by_cases hlt : k < l.length
    · obtain ⟨y, hy⟩ : ∃ y, l[k]? = some y := ⟨_, List.getElem?_eq_getElem hlt⟩
      obtain ⟨b1, o1, rfl, hb1, x0, x1, hyo⟩ := RdCards.at_ HR.out hy
      have z0 := (HI.out.1.cell (p := ⟨b1, o1 + k * 2, none⟩) hb1).trans x0
      have z1 := (HI.out.1.cell (p := ⟨b1, o1 + k * 2 + 1, none⟩) hb1).trans x1
      have u0 := HK.out.cell (j := 0) rfl
      have hkn : (k : Int) < (l.length : Int) := by omega
      have hk0 : (0 : Int) ≤ (k : Int) := by omega
      have HTF := kept (take_filter (fun y => decide (y.cid < xcid)) hy)
      have hcl : cs.length ≤ 200002 := by
        rw [HCS.out]
        have := filter_len (fun y => decide (y.cid < xcid)) l k; omega
      obtain ⟨ycid, yX, yls, yc⟩ := y
      dsimp only at z0 z1 HTF
      clear x0 x1 hy
      by_cases hc : ycid < xcid
      · have hd : decide ((ycid : Int) < (xcid : Int)) = true := decide_eq_true (by omega)
        have hdn : decide (ycid < xcid) = true := decide_eq_true hc
        have HE : Kept ((l.take (k + 1)).filter (fun y => decide (y.cid < xcid)) = cs ++ [⟨ycid, yX, yls, yc⟩]) := ⟨by rw [HTF.out, HCS.out, decide_eq_true hc]; simp⟩
        clear HTF HCS
        have hz0q : Kept (∀ q, (wr.drewN q).cell? ⟨b1, o1 + k * 2, none⟩ = some (.int .u64 (ycid : Int))) := ⟨fun _ => z0⟩
        have hz1q : Kept (∀ q, (wr.drewN q).cell? ⟨b1, o1 + k * 2 + 1, none⟩ = some (.slice yX yls.length yc)) := ⟨fun _ => z1⟩
        go_wp2_with fail
        go_quiet (fail)
        clear z0 z1 u0
        have HI2 := kept (HI.out.drewN nq)
        have HK2 := kept (HK.out.drewN nq)
        clear HI HK
        have HI := HI2
        have HK := HK2
        clear HI2 HK2
        have z0 := hz0q.out nq
        have z1 := hz1q.out nq
        clear hz0q hz1q
        generalize wr.drewN nq = W2 at *
        have hbB : Below W2.heap.size W2 (W2.alloc (.cells #[.int .u64 (ycid : Int), .slice yX yls.length yc] 38)) := (Below.refl _ _).alloc (Nat.le_refl _) _
        have HB4 := kept (HI.out.next hbB)
        have HK4 := kept (HK.out.next hbB)
        have hrn : cardE.Rd (W2.alloc (.cells #[.int .u64 (ycid : Int), .slice yX yls.length yc] 38)) (W2.heap.size + 1) (some ⟨W2.heap.size, 0, none⟩) [⟨ycid, yX, yls, yc⟩] := Rd.newAt W2 [.int .u64 (ycid : Int), .slice yX yls.length yc] 38 rfl (Nat.le_refl _)
        have hz : (cs.length + [(⟨ycid, yX, yls, yc⟩ : CardM)].length) * 32 ≤ 140737488355328 := by simp; omega
        have hbase : w.heap.size + 1 ≤ (W2.alloc (.cells #[.int .u64 (ycid : Int), .slice yX yls.length yc] 38)).heap.size := by have h1 := HK4.out.lt; omega
        have HNW : Kept (∀ x ∈ [(⟨ycid, yX, yls, yc⟩ : CardM)], x.Ok w w.heap.size) := ⟨fun x hx => by
          rw [List.mem_singleton.1 hx]
          exact hyo⟩
        have hoB := HB4.out.2.1
        clear hbB
        go_wp2_with (at_builtin; refine wpl_appEU _ cardE rfl (.tmp 22) (.tmp 27) 22 rfl (w.heap.size + 1) 38 Try.underlying22 card_info rfl _ cs rfl hoB _ _ _ _ [⟨ycid, yX, yls, yc⟩] rfl rfl hrn hz (by decide) hbase ?_; intro A9 c9 w9 r9 hr9 hown9 hu9 hx9)
        have HK9 := kept (HB4.out.box (Nat.le_refl _) HK4.out hu9)
        have HW9 := kept (HB4.out.app HNW.out hr9.out hown9 hu9)
        have HR9 := kept hr9.out
        clear hr9 hown9 hu9 hx9 hrn hoB HNW HB4 HK4 HI HK
        go_wp2_with fail
        go_roundw
        case rel => exact ⟨k + 1, A9, c9, r9, by omega, rfl, by go_num, ⟨by rw [HR9.out, HE.out], HW9.out, HK9.out⟩⟩
        case measure => simp [intOf]; omega
      · have hd : decide ((ycid : Int) < (xcid : Int)) = false := decide_eq_false (by omega)
        have hdn : decide (ycid < xcid) = false := decide_eq_false hc
        have HE : Kept ((l.take (k + 1)).filter (fun y => decide (y.cid < xcid)) = cs) := ⟨by rw [HTF.out, HCS.out, decide_eq_false hc]; simp⟩
        clear HTF HCS
        have hz0q : Kept (∀ q, (wr.drewN q).cell? ⟨b1, o1 + k * 2, none⟩ = some (.int .u64 (ycid : Int))) := ⟨fun _ => z0⟩
        have hz1q : Kept (∀ q, (wr.drewN q).cell? ⟨b1, o1 + k * 2 + 1, none⟩ = some (.slice yX yls.length yc)) := ⟨fun _ => z1⟩
        go_wp2_with fail
        go_quiet (fail)
        clear z0 z1 u0
        have HI2 := kept (HI.out.drewN nq)
        have HK2 := kept (HK.out.drewN nq)
        clear HI HK
        have HI := HI2
        have HK := HK2
        clear HI2 HK2
        have z0 := hz0q.out nq
        have z1 := hz1q.out nq
        clear hz0q hz1q
        generalize wr.drewN nq = W2 at *
        go_wp2_with fail
        go_roundw
        case rel => exact ⟨k + 1, A, c, cs, by omega, rfl, by go_num, ⟨HE.out.symm, HI.out, HK.out⟩⟩
        case measure => simp [intOf]; omega
    · obtain rfl : k = l.length := by omega
      have hcl : cs.length ≤ 200002 := by
        rw [HCS.out]
        have := filter_len (fun y => decide (y.cid < xcid)) l l.length; omega
      have u0 := HK.out.cell (j := 0) rfl
      have u1 := HK.out.cell (j := 1) rfl
      have hbB : Below wr.heap.size wr (wr.alloc (.cells #[.int .u64 (xcid : Int), .slice xX xls.length xc] 38)) := (Below.refl _ _).alloc (Nat.le_refl _) _
      have HB4 := kept (HI.out.next hbB)
      have HK4 := kept (HK.out.next hbB)
      have hrn : cardE.Rd (wr.alloc (.cells #[.int .u64 (xcid : Int), .slice xX xls.length xc] 38)) (wr.heap.size + 1) (some ⟨wr.heap.size, 0, none⟩) [⟨xcid, xX, xls, xc⟩] := Rd.newAt wr [.int .u64 (xcid : Int), .slice xX xls.length xc] 38 rfl (Nat.le_refl _)
      have hz : (cs.length + [(⟨xcid, xX, xls, xc⟩ : CardM)].length) * 32 ≤ 140737488355328 := by simp; omega
      have hbase : w.heap.size + 1 ≤ (wr.alloc (.cells #[.int .u64 (xcid : Int), .slice xX xls.length xc] 38)).heap.size := by have h1 := HK4.out.lt; omega
      have HNW : Kept (∀ x ∈ [(⟨xcid, xX, xls, xc⟩ : CardM)], x.Ok w w.heap.size) := ⟨fun x hx => by
        rw [List.mem_singleton.1 hx]
        exact HX.out⟩
      have hoB := HB4.out.2.1
      clear hbB
      go_wp2_with (at_builtin; refine wpl_appEU _ cardE rfl (.tmp 29) (.tmp 31) 22 rfl (w.heap.size + 1) 38 Try.underlying22 card_info rfl _ cs rfl hoB _ _ _ _ [⟨xcid, xX, xls, xc⟩] rfl rfl hrn hz (by decide) hbase ?_; intro A9 c9 w9 r9 hr9 hown9 hu9 hx9)
      have HK9 := kept (HB4.out.box (Nat.le_refl _) HK4.out hu9)
      have HW9 := kept (HB4.out.app HNW.out hr9.out hown9 hu9)
      have HR9 := kept hr9.out
      clear hr9 hown9 hu9 hx9 hrn hoB HNW HB4 HK4 HI HK
      have HC0 : Kept (r9 = (l.filter fun y => decide (y.cid < xcid)) ++ [⟨xcid, xX, xls, xc⟩]) := ⟨by rw [HR9.out, HCS.out, List.take_length]⟩
      clear HR9 HCS u0 u1 hcl
      go_wp2_with fail
      go_loopw [5, 7] (fun s i wr => ∃ (k : Nat) (A : Option Addr) (c : Nat) (cs : List CardM), k ≤ l.length ∧ s = .slice A cs.length c ∧ i = .int .i64 (k : Int) ∧ Kept (cs = r9 ++ (l.take k).filter (fun y => decide (xcid < y.cid)) ∧ PutSt w wr A c cs ∧ Blk wr w.heap.size [.int .u64 (xcid : Int), .slice xX xls.length xc] 38)) (fun _ i _ => l.length - (intOf i).toNat)
      case atStart => exact ⟨0, A9, c9, r9, Nat.zero_le _, rfl, rfl, ⟨by simp, HW9.out, HK9.out⟩⟩
      case round =>
        have HL9 : Kept (r9.length ≤ 100001) := ⟨by
          rw [HC0.out, List.length_append]
          have := List.length_filter_le (fun y : CardM => decide (y.cid < xcid)) l
          simp; omega⟩
        clear HW9 HK9
        obtain ⟨k, A, c, cs, hk, rfl, rfl, hin⟩ := hrel
        have HI := kept hin.out.2.1
        have HK := kept hin.out.2.2
        have HCS := kept hin.out.1
        clear hin
        by_cases hlt : k < l.length
        · obtain ⟨y, hy⟩ : ∃ y, l[k]? = some y := ⟨_, List.getElem?_eq_getElem hlt⟩
          obtain ⟨b1, o1, rfl, hb1, x0, x1, hyo⟩ := RdCards.at_ HR.out hy
          have z0 := (HI.out.1.cell (p := ⟨b1, o1 + k * 2, none⟩) hb1).trans x0
          have z1 := (HI.out.1.cell (p := ⟨b1, o1 + k * 2 + 1, none⟩) hb1).trans x1
          have u0 := HK.out.cell (j := 0) rfl
          have hkn : (k : Int) < (l.length : Int) := by omega
          have hk0 : (0 : Int) ≤ (k : Int) := by omega
          have HTF := kept (take_filter (fun y => decide (xcid < y.cid)) hy)
          have hcl : cs.length ≤ 200002 := by
            rw [HCS.out]
            have h1 := filter_len (fun y => decide (xcid < y.cid)) l k; have h2 := HL9.out; rw [List.length_append]; omega
          obtain ⟨ycid, yX, yls, yc⟩ := y
          dsimp only at z0 z1 HTF
          clear x0 x1 hy
          by_cases hc : xcid < ycid
          · have hd : decide ((xcid : Int) < (ycid : Int)) = true := decide_eq_true (by omega)
            have hdn : decide (xcid < ycid) = true := decide_eq_true hc
            have HE : Kept (r9 ++ (l.take (k + 1)).filter (fun y => decide (xcid < y.cid)) = cs ++ [⟨ycid, yX, yls, yc⟩]) := ⟨by rw [HTF.out, HCS.out, decide_eq_true hc]; simp⟩
            clear HTF HCS
            have hz0q : Kept (∀ q, (wr.drewN q).cell? ⟨b1, o1 + k * 2, none⟩ = some (.int .u64 (ycid : Int))) := ⟨fun _ => z0⟩
            have hz1q : Kept (∀ q, (wr.drewN q).cell? ⟨b1, o1 + k * 2 + 1, none⟩ = some (.slice yX yls.length yc)) := ⟨fun _ => z1⟩
            go_wp2_with fail
            go_quiet (fail)
            clear z0 z1 u0
            have HI2 := kept (HI.out.drewN nq)
            have HK2 := kept (HK.out.drewN nq)
            clear HI HK
            have HI := HI2
            have HK := HK2
            clear HI2 HK2
            have z0 := hz0q.out nq
            have z1 := hz1q.out nq
            clear hz0q hz1q
            generalize wr.drewN nq = W2 at *
            have hbB : Below W2.heap.size W2 (W2.alloc (.cells #[.int .u64 (ycid : Int), .slice yX yls.length yc] 38)) := (Below.refl _ _).alloc (Nat.le_refl _) _
            have HB4 := kept (HI.out.next hbB)
            have HK4 := kept (HK.out.next hbB)
            have hrn : cardE.Rd (W2.alloc (.cells #[.int .u64 (ycid : Int), .slice yX yls.length yc] 38)) (W2.heap.size + 1) (some ⟨W2.heap.size, 0, none⟩) [⟨ycid, yX, yls, yc⟩] := Rd.newAt W2 [.int .u64 (ycid : Int), .slice yX yls.length yc] 38 rfl (Nat.le_refl _)
            have hz : (cs.length + [(⟨ycid, yX, yls, yc⟩ : CardM)].length) * 32 ≤ 140737488355328 := by simp; omega
            have hbase : w.heap.size + 1 ≤ (W2.alloc (.cells #[.int .u64 (ycid : Int), .slice yX yls.length yc] 38)).heap.size := by have h1 := HK4.out.lt; omega
            have HNW : Kept (∀ x ∈ [(⟨ycid, yX, yls, yc⟩ : CardM)], x.Ok w w.heap.size) := ⟨fun x hx => by
              rw [List.mem_singleton.1 hx]
              exact hyo⟩
            have hoB := HB4.out.2.1
            clear hbB
            go_wp2_with (at_builtin; refine wpl_appEU _ cardE rfl (.tmp 47) (.tmp 52) 22 rfl (w.heap.size + 1) 38 Try.underlying22 card_info rfl _ cs rfl hoB _ _ _ _ [⟨ycid, yX, yls, yc⟩] rfl rfl hrn hz (by decide) hbase ?_; intro A9 c9 w9 q9 hq9 hown9 hu9 hx9)
            have HK9 := kept (HB4.out.box (Nat.le_refl _) HK4.out hu9)
            have HW9 := kept (HB4.out.app HNW.out hq9.out hown9 hu9)
            have HR9 := kept hq9.out
            clear hq9 hown9 hu9 hx9 hrn hoB HNW HB4 HK4 HI HK
            go_wp2_with fail
            go_roundw
            case rel => exact ⟨k + 1, A9, c9, q9, by omega, rfl, by go_num, ⟨by rw [HR9.out, HE.out], HW9.out, HK9.out⟩⟩
            case measure => simp [intOf]; omega
          · have hd : decide ((xcid : Int) < (ycid : Int)) = false := decide_eq_false (by omega)
            have hdn : decide (xcid < ycid) = false := decide_eq_false hc
            have HE : Kept (r9 ++ (l.take (k + 1)).filter (fun y => decide (xcid < y.cid)) = cs) := ⟨by rw [HTF.out, HCS.out, decide_eq_false hc]; simp⟩
            clear HTF HCS
            have hz0q : Kept (∀ q, (wr.drewN q).cell? ⟨b1, o1 + k * 2, none⟩ = some (.int .u64 (ycid : Int))) := ⟨fun _ => z0⟩
            have hz1q : Kept (∀ q, (wr.drewN q).cell? ⟨b1, o1 + k * 2 + 1, none⟩ = some (.slice yX yls.length yc)) := ⟨fun _ => z1⟩
            go_wp2_with fail
            go_quiet (fail)
            clear z0 z1 u0
            have HI2 := kept (HI.out.drewN nq)
            have HK2 := kept (HK.out.drewN nq)
            clear HI HK
            have HI := HI2
            have HK := HK2
            clear HI2 HK2
            have z0 := hz0q.out nq
            have z1 := hz1q.out nq
            clear hz0q hz1q
            generalize wr.drewN nq = W2 at *
            go_wp2_with fail
            go_roundw
            case rel => exact ⟨k + 1, A, c, cs, by omega, rfl, by go_num, ⟨HE.out.symm, HI.out, HK.out⟩⟩
            case measure => simp [intOf]; omega
        · obtain rfl : k = l.length := by omega
          have HF := kept (HP.out cs (by rw [HCS.out, HC0.out, List.take_length]))
          clear HCS HC0 HP
          go_wp2_with fail
          go_ret
          rw [HF.out]
          exact HI.out.gives
end Go.Proofs.Ytnmcclkpgbdenaa.Chg
