/- Layer 4: the document's Flag and Text; the law PackBack. -/
import Derived.Test.YtmfclekjojninaaPackLaws
namespace Go.Proofs.Ytmfclekjojninaa.Pack
open Go.RowKit Go.Proofs.Ytmfclekjojninaa.Mem Go.Proofs.Ytmfclekjojninaa.Num Go.Proofs.Ytmfclekjojninaa.Shift

theorem own_cap {w : World} {base : Nat} {A : Option Addr} {c : Nat} {l : List Nat} (h : Own w base 5 (.slice A l.length c) (BB l)) : l.length ≤ c := by
  obtain ⟨_, _, he, hc1, _, _⟩ := h.form
  injection he with _ _ he
  subst he
  rwa [BB_length] at hc1
theorem sB_take (s : ByteArray) (k : Nat) (h : k < s.size) : (sB s).take (k + 1) = (sB s).take k ++ [(s[k].toNat : Nat)] := by
  have hk : k < (sB s).length := by rw [sB_length]; exact h
  rw [List.take_succ_eq_append_getElem hk]
  congr 1
  simp [sB]; rfl
theorem rtext_any (A : Option Addr) (n c : Nat) (l : List Nat) (s : ByteArray) (w : World) (hn : n = l.length) (hr : Rd w w.heap.size A (BB l)) (hsz : l.length + s.size ≤ 140737488354000) :
    Calls Try.prog 86 #[.slice A n c, .string s] w (Gives w (l ++ textB s)) := by
  have hn8 := lenB_le s.size
  have hnl := numB_length s.size
  have C1 := kept (rappend_any A n c l s.size w hn (by omega) hr (by omega))
  unfold textB
  have hln : (l ++ numB s.size).length ≤ l.length + 9 := by rw [List.length_append]; omega
  rw [← List.append_assoc]
  generalize l ++ numB s.size = m at *
  clear hr hnl hn
  go_enter Try.func86, Try.ntmps86
  go_wp2_with fail
  refine C1.out.mono ?_
  rintro e w1 ⟨A1, c1, rfl, hown1, hc1, hb1⟩
  go_wp2_with fail
  go_loopw [5, 6] (fun x i wr => ∃ (k : Nat) (D : Option Addr) (cc : Nat) (r : List Nat), k ≤ s.size ∧ i = .int .i64 (k : Int) ∧ x = .slice D r.length cc ∧ Kept (r = m ++ (sB s).take k) ∧ r.length ≤ l.length + 9 + k ∧ Own wr w.heap.size 5 (.slice D r.length cc) (BB r) ∧ Below w.heap.size w wr) (fun _ i _ => s.size - (intOf i).toNat)
  case atStart => exact ⟨0, A1, c1, m, Nat.zero_le _, rfl, rfl, ⟨by simp⟩, hln, hown1, hb1⟩
  case round =>
    obtain ⟨k, D, cc, r, hk, rfl, rfl, hr', hrl, hown, hb⟩ := hrel
    by_cases hlt : k < s.size
    · have HT := kept (sB_take s k hlt)
      have hsw := hb.size
      have hz : r.length + [(s[k].toNat : Nat)].length ≤ 140737488355328 := by simp; omega
      go_wp2_with (at_builtin; refine wpl_app rfl (.tmp 18) (.tmp 22) rfl w.heap.size _ r rfl (hown.alloc _) _ _ _ _ [(s[k].toNat : Nat)] rfl rfl (rd_one wr _) hz (by (simp; omega)) ?_; intro A3 c3 w3 r3 hr3 hown3 hg3 hb3)
      have HR : Kept (r3 = m ++ (sB s).take (k + 1)) := ⟨by rw [hr3.out, hr'.out, HT.out, List.append_assoc]⟩
      have hl3 : r3.length ≤ l.length + 9 + (k + 1) := by rw [hr3.out, List.length_append]; simp; omega
      have hb' := (hb.alloc hsw (.cells #[.int .u8 ((s[k].toNat : Nat) : Int)] 5)).trans hb3
      have HB := kept hb'
      clear hg3 hr3 hb3 hb'
      go_roundw
      case rel => exact ⟨k + 1, A3, c3, r3, by omega, by go_num, rfl, HR, hl3, hown3, HB.out⟩
      case measure => simp [intOf]; omega
    · have e : r = m ++ sB s := by rw [hr'.out, List.take_of_length_le (by rw [sB_length]; omega)]
      have HE := kept e
      clear e hr'
      go_wp2
      go_ret
      obtain rfl := HE.out
      exact ⟨D, cc, rfl, hown, own_cap hown, hb⟩
/-! the law -/
theorem rd_grown {w w' : World} {row : Option Nat} {B : Nat} {A : Option Addr} {xs : List Value} (h : Rd w B A xs) (hg : w.grownBy w' row) (hB : B ≤ w.heap.size) (hne : ∀ x, A = some x → some x.block ≠ row) {B' : Nat} (hB' : B ≤ B') : Rd w' B' A xs :=
  (h.upd ((Upd.refl (fun k => some k = row) w).grown hg (fun _ hk => .inl hk.symm)) hB (fun x hx => hne x hx)).more hB'
/-- the writer, and the bytes that are wanted, apart -/
def Wants (base : World) (g : Nat) (L : List Nat) (v : Value) (w : World) : Prop :=
  ∃ (S : Nat → Prop) (A : Option Addr) (c : Nat), v = .slice A L.length c ∧ Wtr w S g L ∧ Rd w w.heap.size A (BB L) ∧ (∀ x, A = some x → BB L ≠ [] → ¬ S x.block) ∧ (∀ k, S k → base.heap.size ≤ k) ∧ Below base.heap.size base w
theorem le_sum_mem : ∀ {l : List Nat} {x : Nat}, x ∈ l → x ≤ l.sum
  | [], _, h => by cases h
  | y :: l, x, h => by
    rw [List.sum_cons]
    rcases List.mem_cons.1 h with rfl | h
    · omega
    · have := le_sum_mem h; omega
theorem wants_on {base w0 w2 w3 : World} {g : Nat} {S S1 : Nat → Prop} {L' : List Nat} {A3 : Option Addr} {c3 : Nat} (hB0 : Below base.heap.size base w0) (hS : ∀ k, S k → base.heap.size ≤ k) (h1 : Wtr w2 S1 g L') (hg : Goes S w0 S1 w2)
    (ho : Own w3 w2.heap.size 5 (.slice A3 L'.length c3) (BB L')) (hb : Below w2.heap.size w2 w3) : Wants base g L' (.slice A3 L'.length c3) w3 := by
  have hb2 : Below base.heap.size base w2 := hB0.trans (hg.below hB0.size hS)
  refine ⟨S1, A3, c3, rfl, h1.next hb, ho.rd, fun x hx _ hs => ?_, hg.base hB0.size hS, below_next hb2 hb⟩
  subst hx
  have h2 := (ho.lt x.block rfl).1
  have h3 := h1.under _ hs
  omega
end Go.Proofs.Ytmfclekjojninaa.Pack
