/- Layer 4: the document's Flag and Text; the law PackBack. -/
import Derived.Test.YtijdkbejlaebhaaPackLaws
namespace Go.Proofs.Ytijdkbejlaebhaa.Pack
open Go.RowKit Go.Proofs.Ytijdkbejlaebhaa.Mem Go.Proofs.Ytijdkbejlaebhaa.Num Go.Proofs.Ytijdkbejlaebhaa.Shift

theorem own_cap {w : World} {base : Nat} {A : Option Addr} {c : Nat} {l : List Nat} (h : Own w base 5 (.slice A l.length c) (BB l)) : l.length ≤ c := by
  obtain ⟨_, _, he, hc1, _, _⟩ := h.form
  injection he with _ _ he
  subst he
  rwa [BB_length] at hc1
theorem rflag_any (A : Option Addr) (n c : Nat) (l : List Nat) (b : Bool) (w : World) (hn : n = l.length) (hr : Rd w w.heap.size A (BB l)) (hsz : l.length ≤ 140737488355000) :
    Calls Try.prog 92 #[.slice A n c, .bool b] w (Gives w (l ++ [flagN b])) := by
  subst hn
  have hown0 : Own (w.alloc (.cells #[] 5)) w.heap.size 5 (.slice (some ⟨w.heap.size, 0, none⟩) 0 0) (BB []) := Own.new w w.heap.size 5 [] (Nat.le_refl _) (by simp)
  have hr0 := hr.alloc (Nat.le_refl _) (.cells #[] 5)
  have hz : ([] : List Nat).length + l.length ≤ 140737488355328 := by simp; omega
  cases b
  · go_enter Try.func92, Try.ntmps92
    go_wp2_with (first
      | (at_builtin; refine wpl_app rfl (.tmp 7) (.tmp 8) rfl w.heap.size _ [] rfl hown0 w.heap.size A _ c l rfl rfl hr0 hz (by simp) ?_; intro A2 c2 w2 r2 hr2 hown2 hg2 hb2; have hle2 : r2.length ≤ 140737488355100 := by (rw [hr2.out]; simp; omega))
      | (at_builtin; have hz2 : r2.length + [(0 : Nat)].length ≤ 140737488355328 := by (simp; omega)
         refine wpl_app rfl (.tmp 9) (.tmp 11) rfl w.heap.size _ r2 rfl (hown2.alloc _) _ _ _ _ [(0 : Nat)] rfl rfl (rd_one w2 (0 : Nat)) hz2 (by (have := hb2.size; simp at this; simp; omega)) ?_; intro A3 c3 w3 r3 hr3 hown3 hg3 hb3))
    go_ret
    obtain rfl : r2 = l := hr2.out
    obtain rfl : r3 = r2 ++ [flagN false] := hr3.out
    exact ⟨A3, c3, rfl, hown3, own_cap hown3, ((((Below.refl _ _).alloc (Nat.le_refl _) _).trans hb2).alloc (by have := hb2.size; simp at this; omega) _).trans hb3⟩
  · go_enter Try.func92, Try.ntmps92
    go_wp2_with (first
      | (at_builtin; refine wpl_app rfl (.tmp 7) (.tmp 8) rfl w.heap.size _ [] rfl hown0 w.heap.size A _ c l rfl rfl hr0 hz (by simp) ?_; intro A2 c2 w2 r2 hr2 hown2 hg2 hb2; have hle2 : r2.length ≤ 140737488355100 := by (rw [hr2.out]; simp; omega))
      | (at_builtin; have hz2 : r2.length + [(1 : Nat)].length ≤ 140737488355328 := by (simp; omega)
         refine wpl_app rfl (.tmp 9) (.tmp 11) rfl w.heap.size _ r2 rfl (hown2.alloc _) _ _ _ _ [(1 : Nat)] rfl rfl (rd_one w2 (1 : Nat)) hz2 (by (have := hb2.size; simp at this; simp; omega)) ?_; intro A3 c3 w3 r3 hr3 hown3 hg3 hb3))
    go_ret
    obtain rfl : r2 = l := hr2.out
    obtain rfl : r3 = r2 ++ [flagN true] := hr3.out
    exact ⟨A3, c3, rfl, hown3, own_cap hown3, ((((Below.refl _ _).alloc (Nat.le_refl _) _).trans hb2).alloc (by have := hb2.size; simp at this; omega) _).trans hb3⟩
theorem sB_take (s : ByteArray) (k : Nat) (h : k < s.size) : (sB s).take (k + 1) = (sB s).take k ++ [(s[k].toNat : Nat)] := by
  have hk : k < (sB s).length := by rw [sB_length]; exact h
  rw [List.take_succ_eq_append_getElem hk]
  congr 1
  simp [sB]; rfl
theorem rtext_any (A : Option Addr) (n c : Nat) (l : List Nat) (s : ByteArray) (w : World) (hn : n = l.length) (hr : Rd w w.heap.size A (BB l)) (hsz : l.length + s.size ≤ 140737488354000) :
    Calls Try.prog 94 #[.slice A n c, .string s] w (Gives w (l ++ textB s)) := by
  have hn8 := lenB_le s.size
  have hnl := numB_length s.size
  have C1 := kept (rappend_any A n c l s.size w hn (by omega) hr (by omega))
  unfold textB
  have hln : (l ++ numB s.size).length ≤ l.length + 9 := by rw [List.length_append]; omega
  rw [← List.append_assoc]
  generalize l ++ numB s.size = m at *
  clear hr hnl hn
  go_enter Try.func94, Try.ntmps94
  go_wp2_with fail
  refine C1.out.mono ?_
  rintro e w1 ⟨A1, c1, rfl, hown1, hc1, hb1⟩
  go_wp2_with fail
  go_loopw [5, 6] (fun x i wr => ∃ (k : Nat) (D : Option Addr) (cc : Nat) (r : List Nat), k ≤ s.size ∧ i = .int .i64 (k : Int) ∧ x = .slice D r.length cc ∧ Kept (r = m ++ (sB s).take k) ∧ r.length ≤ l.length + 9 + k ∧ Own wr w.heap.size 5 (.slice D r.length cc) (BB r) ∧ Below w.heap.size w wr) (fun _ i _ => s.size - (intOf i).toNat)
  case atStart => exact ⟨0, A1, c1, m, Nat.zero_le _, rfl, rfl, ⟨by simp⟩, hln, hown1, hb1⟩
  case round =>
    obtain ⟨k, D, cc, r, hk, rfl, rfl, hr', hrl, hown, hb⟩ := hrel
    by_cases hlt : k < s.size
    · have HT := kept (sB_take s k hlt)
      have hsw := hb.size
      have hz : r.length + [(s[k].toNat : Nat)].length ≤ 140737488355328 := by simp; omega
      go_wp2_with (at_builtin; refine wpl_app rfl (.tmp 18) (.tmp 22) rfl w.heap.size _ r rfl (hown.alloc _) _ _ _ _ [(s[k].toNat : Nat)] rfl rfl (rd_one wr _) hz (by (simp; omega)) ?_; intro A3 c3 w3 r3 hr3 hown3 hg3 hb3)
      have HR : Kept (r3 = m ++ (sB s).take (k + 1)) := ⟨by rw [hr3.out, hr'.out, HT.out, List.append_assoc]⟩
      have hl3 : r3.length ≤ l.length + 9 + (k + 1) := by rw [hr3.out, List.length_append]; simp; omega
      have hb' := (hb.alloc hsw (.cells #[.int .u8 ((s[k].toNat : Nat) : Int)] 5)).trans hb3
      have HB := kept hb'
      clear hg3 hr3 hb3 hb'
      go_roundw
      case rel => exact ⟨k + 1, A3, c3, r3, by omega, by go_num, rfl, HR, hl3, hown3, HB.out⟩
      case measure => simp [intOf]; omega
    · have e : r = m ++ sB s := by rw [hr'.out, List.take_of_length_le (by rw [sB_length]; omega)]
      have HE := kept e
      clear e hr'
      go_wp2
      go_ret
      obtain rfl := HE.out
      exact ⟨D, cc, rfl, hown, own_cap hown, hb⟩
/-! the law -/
theorem rd_grown {w w' : World} {row : Option Nat} {B : Nat} {A : Option Addr} {xs : List Value} (h : Rd w B A xs) (hg : w.grownBy w' row) (hB : B ≤ w.heap.size) (hne : ∀ x, A = some x → some x.block ≠ row) {B' : Nat} (hB' : B ≤ B') : Rd w' B' A xs :=
  (h.upd ((Upd.refl (fun k => some k = row) w).grown hg (fun _ hk => .inl hk.symm)) hB (fun x hx => hne x hx)).more hB'
/-- the writer, and the bytes that are wanted, apart -/
def Wants (base : World) (g : Nat) (L : List Nat) (v : Value) (w : World) : Prop :=
  ∃ (S : Nat → Prop) (A : Option Addr) (c : Nat), v = .slice A L.length c ∧ Wtr w S g L ∧ Rd w w.heap.size A (BB L) ∧ (∀ x, A = some x → BB L ≠ [] → ¬ S x.block) ∧ (∀ k, S k → base.heap.size ≤ k) ∧ Below base.heap.size base w
theorem le_sum_mem : ∀ {l : List Nat} {x : Nat}, x ∈ l → x ≤ l.sum
  | [], _, h => by cases h
  | y :: l, x, h => by
    rw [List.sum_cons]
    rcases List.mem_cons.1 h with rfl | h
    · omega
    · have := le_sum_mem h; omega
theorem wants_on {base w0 w2 w3 : World} {g : Nat} {S S1 : Nat → Prop} {L' : List Nat} {A3 : Option Addr} {c3 : Nat} (hB0 : Below base.heap.size base w0) (hS : ∀ k, S k → base.heap.size ≤ k) (h1 : Wtr w2 S1 g L') (hg : Goes S w0 S1 w2)
    (ho : Own w3 w2.heap.size 5 (.slice A3 L'.length c3) (BB L')) (hb : Below w2.heap.size w2 w3) : Wants base g L' (.slice A3 L'.length c3) w3 := by
  have hb2 : Below base.heap.size base w2 := hB0.trans (hg.below hB0.size hS)
  refine ⟨S1, A3, c3, rfl, h1.next hb, ho.rd, fun x hx _ hs => ?_, hg.base hB0.size hS, below_next hb2 hb⟩
  subst hx
  have h2 := (ho.lt x.block rfl).1
  have h3 := h1.under _ hs
  omega
set_option maxRecDepth 100000 in
set_option maxHeartbeats 4000000 in
theorem back_law (B : Option Addr) (d : Nat) (ls : List ThingM) (w : World) (has : ∀ x ∈ ls, x.Ok) (r2 : thingE.Rd w w.heap.size B ls) (hlen : ls.length ≤ 1048576) (hsum : (ls.map fun x => x.s.size).sum ≤ 1048576) :
    Calls Try.prog 12 #[.slice B ls.length d] w fun e w' => e = .returned (.bool true) ∧ Below w.heap.size w w' := by
  have hL := pks_length ls
  have hLs : ∀ j, (pks (ls.take j)).length ≤ 20000000 := fun j => by have := size_take ls j; omega
  have HLs := kept hLs
  have HL : (pks ls).length ≤ 20000000 := by omega
  clear hLs hL
  have hw0 := Wtr.new w
  have hb0 := (Below.refl w.heap.size w).alloc (Nat.le_refl _) (.cells #[.slice none 0 0] 106)
  have HW0 : Kept (Wants w w.heap.size [] (.slice none 0 0) (w.alloc (.cells #[.slice none 0 0] 106))) := ⟨⟨_, none, 0, rfl, hw0, Rd.nil, (fun x hx => by cases hx), (fun k hk => by omega), hb0⟩⟩
  clear hw0 hb0
  go_enter Try.func12, Try.ntmps12
  go_wp2_with fail
  go_loopg [4, 5] ls.length (fun n v i wr => ∃ j : Nat, n + j = ls.length ∧ i = .int .i64 (j : Int) ∧ Wants w w.heap.size (pks (ls.take j)) v wr)
  case atStart => exact ⟨0, rfl, rfl, HW0.out⟩
  case round =>
    obtain ⟨j, hj, rfl, S, A, c, rfl, hW, hr, hap, hS, hb⟩ := hrel
    by_cases hlt : j < ls.length
    · obtain ⟨x, hx⟩ : ∃ x, ls[j]? = some x := ⟨_, List.getElem?_eq_getElem hlt⟩
      obtain ⟨b, o, rfl, hbb, hcell⟩ := (r2.below hb).at_ hx
      have hc0 := hcell 0 _ rfl
      have hc1 := hcell 1 _ rfl
      have hc2 := hcell 2 _ rfl
      rw [show thingE.k = 3 from rfl] at hc0 hc1 hc2
      rw [Nat.add_zero] at hc0
      rw [← Nat.add_assoc] at hc1 hc2
      obtain ⟨hx1, hx2, hx3⟩ := has x (List.mem_of_getElem? hx)
      have hT := pks_take hx
      have hLj := HLs.out j
      have hLj1 := HLs.out (j + 1)
      have hxs := pk_length x
      obtain ⟨k, v, s⟩ := x
      dsimp only at hc0 hc1 hc2 hx1 hx2 hx3 hxs
      have HT := kept hT
      have hss : s.size ≤ 1048576 := by
        have h1 : s.size ∈ ls.map fun x => x.s.size := List.mem_map.2 ⟨_, List.mem_of_getElem? hx, rfl⟩
        have h2 := le_sum_mem h1
        omega
      generalize hL' : pks (ls.take j) = L at *
      have HW := kept hW
      have HR := kept hr
      have HAP := kept hap
      clear hW hr hap hcell hx hT hL' hxs
      go_upto_block 1 with fail
      go_cut [4] (fun p wx => Wants w w.heap.size (pks (ls.take (j + 1))) p wx)
      case first =>
        go_upto_block 2 with fail
        obtain ⟨w0, hw0⟩ : ∃ w0, wr.alloc (.cells #[.int .u8 (k : Int), .int .u64 (v : Int), .string s] 108) = w0 := ⟨_, rfl⟩
        have ka := Blk.new wr [.int .u8 (k : Int), .int .u64 (v : Int), .string s] 108
        have hba := (Below.refl wr.heap.size wr).alloc (Nat.le_refl _) (.cells #[.int .u8 (k : Int), .int .u64 (v : Int), .string s] 108)
        rw [hw0] at ka hba ⊢
        have hW0 := HW.out.next hba
        have hR0 := HR.out.next hba
        have HB0 := kept (below_next hb hba)
        have hkS : ¬ S wr.heap.size := fun h => by have := HW.out.under _ h; omega
        have ha1 := ka.cell (j := 1) rfl
        have ha2 := ka.cell (j := 2) rfl
        have hga := ka.lt
        clear hw0 HW HR hc0 hc1 hc2 hb hbb hba
        have KA := kept ka
        clear ka
        generalize wr.heap.size = ga at *
        by_cases h0 : k = 0
        · subst h0
          have HPK := kept (show pk ⟨0, v, s⟩ = numB v from by unfold pk; rw [if_pos rfl])
          have C1 := kept (wnum_any S _ L v _ hW0 hx2 (by omega))
          clear hW0
          go_wp2_with fail
          refine C1.out.mono ?_
          rintro e w2 ⟨rfl, S1, h1, hg1⟩
          have hr2 := (hR0.updN hg1.1 (Nat.le_refl _) HAP.out).more hg1.1.size
          have ka2 := KA.out.upd hg1.1 hkS
          have ha1 := ka2.cell (j := 1) rfl
          have ha2 := ka2.cell (j := 2) rfl
          have hga := ka2.lt
          have H1 := kept h1
          have HG1 := kept hg1
          have C2 := kept (rappend_any A _ c L v w2 rfl hx2 hr2 (by omega))
          clear h1 hg1 hR0 hr2 ka2
          go_wp2_with fail
          refine C2.out.mono ?_
          rintro e w3 ⟨A3, c3, rfl, own3, hc3, hb3⟩
          have HF := kept (wants_on HB0.out hS H1.out HG1.out own3 hb3)
          clear own3 hb3
          go_wp2_with fail
          go_meet
          rw [HT.out, HPK.out]
          have hf := HF.out
          rw [List.length_append] at hf
          exact hf
        have d0 : ((k : Int) == 0) = false := by rw [beq_eq_false_iff_ne]; omega
        by_cases h1 : k = 1
        · subst h1
          have HPK := kept (show pk ⟨1, v, s⟩ = [v % 256] from by unfold pk; rw [if_neg (by simp), if_pos rfl])
          have hwr : IntKind.u8.wrap (v : Int) = ((v % 256 : Nat) : Int) := by rw [IntKind.wrap_u8]; omega
          generalize v % 256 = y at *
          have C1 := kept (wbyte_any S _ L y _ hW0 (by omega))
          clear hW0
          go_wp2_with fail
          refine C1.out.mono ?_
          rintro e w2 ⟨rfl, S1, h1, hg1⟩
          have hr2 := (hR0.updN hg1.1 (Nat.le_refl _) HAP.out).more hg1.1.size
          have ka2 := KA.out.upd hg1.1 hkS
          have ha1 := ka2.cell (j := 1) rfl
          have hga := ka2.lt
          have H1 := kept h1
          have HG1 := kept hg1
          have KC := kept (fun (W : World) (h : Blk W ga [.int .u8 ((1 : Nat) : Int), .int .u64 (v : Int), .string s] 108) => h.cell (j := 1) (u := .int .u64 (v : Int)) rfl)
          have hz1 : ([] : List Nat).length + L.length ≤ 140737488355328 := by simp; omega
          clear h1 hg1 hR0 ha2
          have oα : Own (w2.alloc (.cells #[] 5)).drew w2.heap.size 5 (.slice (some ⟨w2.heap.size, 0, none⟩) 0 0) (BB []) := Own.new w2 w2.heap.size 5 [] (Nat.le_refl _) (by simp)
          have oβ : Own ((w2.alloc (.cells #[] 5)).alloc (.cells #[.int .u8 (y : Int)] 5)).drew w2.heap.size 5 (.slice (some ⟨w2.heap.size, 0, none⟩) 0 0) (BB []) := (Own.new w2 w2.heap.size 5 [] (Nat.le_refl _) (by simp)).alloc _
          have oγ : Own ((w2.alloc (.cells #[.int .u8 (y : Int)] 5)).alloc (.cells #[] 5)).drew w2.heap.size 5 (.slice (some ⟨w2.heap.size + 1, 0, none⟩) 0 0) (BB []) := by
            have := Own.new (w2.alloc (.cells #[.int .u8 (y : Int)] 5)) w2.heap.size 5 [] (by simp) (by simp)
            rw [show (w2.alloc (.cells #[.int .u8 (y : Int)] 5)).heap.size = w2.heap.size + 1 from by simp] at this
            exact this
          have rα : Rd (w2.alloc (.cells #[] 5)).drew w2.heap.size A (BB L) := hr2.alloc (Nat.le_refl _) _
          have rβ : Rd ((w2.alloc (.cells #[] 5)).alloc (.cells #[.int .u8 (y : Int)] 5)).drew w2.heap.size A (BB L) := (hr2.alloc (Nat.le_refl _) _).alloc (by simp) _
          have rγ : Rd ((w2.alloc (.cells #[.int .u8 (y : Int)] 5)).alloc (.cells #[] 5)).drew w2.heap.size A (BB L) := (hr2.alloc (Nat.le_refl _) _).alloc (by simp) _
          have bα : w2.heap.size ≤ (w2.alloc (.cells #[] 5)).drew.heap.size := by show _ ≤ (w2.alloc _).heap.size; simp
          have bβ : w2.heap.size ≤ ((w2.alloc (.cells #[] 5)).alloc (.cells #[.int .u8 (y : Int)] 5)).drew.heap.size := by show _ ≤ ((w2.alloc _).alloc _).heap.size; simp; omega
          have bγ : w2.heap.size ≤ ((w2.alloc (.cells #[.int .u8 (y : Int)] 5)).alloc (.cells #[] 5)).drew.heap.size := by show _ ≤ ((w2.alloc _).alloc _).heap.size; simp; omega
          have kα : Blk (w2.alloc (.cells #[] 5)).drew ga [.int .u8 ((1 : Nat) : Int), .int .u64 (v : Int), .string s] 108 := ka2.alloc _
          have kβ : Blk ((w2.alloc (.cells #[] 5)).alloc (.cells #[.int .u8 (y : Int)] 5)).drew ga [.int .u8 ((1 : Nat) : Int), .int .u64 (v : Int), .string s] 108 := (ka2.alloc _).alloc _
          have kγ : Blk ((w2.alloc (.cells #[.int .u8 (y : Int)] 5)).alloc (.cells #[] 5)).drew ga [.int .u8 ((1 : Nat) : Int), .int .u64 (v : Int), .string s] 108 := (ka2.alloc _).alloc _
          have yβ : Rd ((w2.alloc (.cells #[] 5)).alloc (.cells #[.int .u8 (y : Int)] 5)).drew (w2.heap.size + 2) (some ⟨w2.heap.size + 1, 0, none⟩) (BB [y]) := by
            have := rd_one (w2.alloc (.cells #[] 5)) y
            rw [show (w2.alloc (.cells #[] 5)).heap.size = w2.heap.size + 1 from by simp] at this
            exact this
          have yγ : Rd ((w2.alloc (.cells #[.int .u8 (y : Int)] 5)).alloc (.cells #[] 5)).drew (w2.heap.size + 1) (some ⟨w2.heap.size, 0, none⟩) (BB [y]) := (rd_one w2 y).alloc (by simp) _
          have hα : Below w2.heap.size w2 (w2.alloc (.cells #[] 5)).drew := ((Below.refl _ _).alloc (Nat.le_refl _) _).drew
          have hβ : Below w2.heap.size w2 ((w2.alloc (.cells #[] 5)).alloc (.cells #[.int .u8 (y : Int)] 5)).drew := (((Below.refl _ _).alloc (Nat.le_refl _) _).alloc (by simp) _).drew
          have hγ : Below w2.heap.size w2 ((w2.alloc (.cells #[.int .u8 (y : Int)] 5)).alloc (.cells #[] 5)).drew := (((Below.refl _ _).alloc (Nat.le_refl _) _).alloc (by simp) _).drew
          have sβ : w2.heap.size + 2 ≤ ((w2.alloc (.cells #[] 5)).alloc (.cells #[.int .u8 (y : Int)] 5)).drew.heap.size := by show _ ≤ ((w2.alloc _).alloc _).heap.size; simp
          have sγ : w2.heap.size + 1 ≤ ((w2.alloc (.cells #[.int .u8 (y : Int)] 5)).alloc (.cells #[] 5)).drew.heap.size := by show _ ≤ ((w2.alloc _).alloc _).heap.size; simp
          go_wp2_with fail
          go_region_held3 (fun W => W.cell? ⟨ga, 1, none⟩ = some (.int .u64 (v : Int))) (first | assumption | exact KC.out _ (by (repeat (first | with_reducible assumption | with_reducible refine Blk.drew ?_ | with_reducible refine Blk.alloc ?_ _)))) (first
            | (refine step_app rfl (.tmp 47) (.tmp 51) rfl w2.heap.size _ r3 rfl (hown3.alloc _) (w3.heap.size + 1) (some ⟨w3.heap.size, 0, none⟩) 1 1 [y] rfl rfl (rd_one w3 y) hz3 (by (simp; omega)) ?_; intro A4 c4 w4 r4 hr4 hown4 hg4 hb4; have ka4 : Blk w4 ga [.int .u8 ((1 : Nat) : Int), .int .u64 (v : Int), .string s] 108 := Blk.below (ka3.alloc _) hb4 hga; have hbw4 := (hbw3.alloc hsz3 _).trans hb4)
            | (refine step_app rfl (.tmp 47) (.tmp 51) rfl w2.heap.size _ r3 rfl hown3 w3.heap.size _ 1 1 [y] rfl rfl hry hz3 hsz3 ?_; intro A4 c4 w4 r4 hr4 hown4 hg4 hb4; have ka4 : Blk w4 ga [.int .u8 ((1 : Nat) : Int), .int .u64 (v : Int), .string s] 108 := Blk.below ka3 hb4 hga; have hbw4 := hbw3.trans hb4)
            | (refine step_app rfl (.tmp 45) (.tmp 46) rfl w2.heap.size _ [] rfl oα w2.heap.size A L.length c L rfl rfl rα hz1 bα ?_; intro A3 c3 w3 r3 hr3 hown3 hg3 hb3; have hbw3 := hα.trans hb3; have hr3l : r3.length ≤ 20000000 := (by (rw [hr3.out]; simpa using hLj)); have hz3 : r3.length + [y].length ≤ 140737488355328 := (by (simp; omega)); have ka3 : Blk w3 ga [.int .u8 ((1 : Nat) : Int), .int .u64 (v : Int), .string s] 108 := Blk.below kα hb3 hga; have hsz3 : w2.heap.size ≤ w3.heap.size := (by (have := hb3.size; simp at this; omega)))
            | (refine step_app rfl (.tmp 45) (.tmp 46) rfl w2.heap.size _ [] rfl oβ w2.heap.size A L.length c L rfl rfl rβ hz1 bβ ?_; intro A3 c3 w3 r3 hr3 hown3 hg3 hb3; have hbw3 := hβ.trans hb3; have hr3l : r3.length ≤ 20000000 := (by (rw [hr3.out]; simpa using hLj)); have hz3 : r3.length + [y].length ≤ 140737488355328 := (by (simp; omega)); have ka3 : Blk w3 ga [.int .u8 ((1 : Nat) : Int), .int .u64 (v : Int), .string s] 108 := Blk.below kβ hb3 hga; have hsz3 : w2.heap.size ≤ w3.heap.size := (by (have := hb3.size; simp at this; omega)); have hry : Rd w3 w3.heap.size (some ⟨w2.heap.size + 1, 0, none⟩) (BB [y]) := rd_grown yβ hg3 sβ (fun x hx => by (cases hx; show some (w2.heap.size + 1) ≠ some w2.heap.size; simp)) (Nat.le_trans sβ hb3.size))
            | (refine step_app rfl (.tmp 45) (.tmp 46) rfl w2.heap.size _ [] rfl oγ w2.heap.size A L.length c L rfl rfl rγ hz1 bγ ?_; intro A3 c3 w3 r3 hr3 hown3 hg3 hb3; have hbw3 := hγ.trans hb3; have hr3l : r3.length ≤ 20000000 := (by (rw [hr3.out]; simpa using hLj)); have hz3 : r3.length + [y].length ≤ 140737488355328 := (by (simp; omega)); have ka3 : Blk w3 ga [.int .u8 ((1 : Nat) : Int), .int .u64 (v : Int), .string s] 108 := Blk.below kγ hb3 hga; have hsz3 : w2.heap.size ≤ w3.heap.size := (by (have := hb3.size; simp at this; omega)); have hry : Rd w3 w3.heap.size (some ⟨w2.heap.size, 0, none⟩) (BB [y]) := rd_grown yγ hg3 sγ (fun x hx => by (cases hx; show some w2.heap.size ≠ some (w2.heap.size + 1); simp)) (Nat.le_trans sγ hb3.size)))
          all_goals (go_wp2_with fail; go_meet)
          all_goals
            rw [HT.out, HPK.out]
            obtain rfl : r3 = L := hr3.out
            obtain rfl : r4 = r3 ++ [y] := hr4.out
            exact wants_on HB0.out hS H1.out HG1.out hown4 hbw4
        have d1 : ((k : Int) == 1) = false := by rw [beq_eq_false_iff_ne]; omega
        by_cases h2 : k = 2
        · subst h2
          have HPK := kept (show pk ⟨2, v, s⟩ = [flagN (decide (v % 2 = 1))] from by unfold pk; rw [if_neg (by simp), if_neg (by simp), if_pos rfl])
          have hfl : (((v : Int) % 2) == 1) = decide (v % 2 = 1) := by
            by_cases e : v % 2 = 1
            · rw [decide_eq_true e]; simp; omega
            · rw [decide_eq_false e, beq_eq_false_iff_ne]; omega
          generalize decide (v % 2 = 1) = fl at *
          have C1 := kept (wflag_any S _ L fl _ hW0 (by omega))
          clear hW0
          go_wp2_with fail
          refine C1.out.mono ?_
          rintro e w2 ⟨rfl, S1, h1, hg1⟩
          have hr2 := (hR0.updN hg1.1 (Nat.le_refl _) HAP.out).more hg1.1.size
          have ka2 := KA.out.upd hg1.1 hkS
          have ha1 := ka2.cell (j := 1) rfl
          have ha2 := ka2.cell (j := 2) rfl
          have hga := ka2.lt
          have H1 := kept h1
          have HG1 := kept hg1
          have C2 := kept (rflag_any A _ c L fl w2 rfl hr2 (by omega))
          clear h1 hg1 hR0 hr2 ka2
          go_wp2_with fail
          refine C2.out.mono ?_
          rintro e w3 ⟨A3, c3, rfl, own3, hc3, hb3⟩
          have HF := kept (wants_on HB0.out hS H1.out HG1.out own3 hb3)
          clear own3 hb3
          go_wp2_with fail
          go_meet
          rw [HT.out, HPK.out]
          have hf := HF.out
          rw [List.length_append] at hf
          exact hf
        have d2 : ((k : Int) == 2) = false := by rw [beq_eq_false_iff_ne]; omega
        have HPK := kept (show pk ⟨k, v, s⟩ = textB s from by unfold pk; rw [if_neg h0, if_neg h1, if_neg h2])
        have C1 := kept (wtext_any S _ L s _ hW0 (by omega))
        clear hW0
        go_wp2_with fail
        refine C1.out.mono ?_
        rintro e w2 ⟨rfl, S1, h1, hg1⟩
        have hr2 := (hR0.updN hg1.1 (Nat.le_refl _) HAP.out).more hg1.1.size
        have ka2 := KA.out.upd hg1.1 hkS
        have ha1 := ka2.cell (j := 1) rfl
        have ha2 := ka2.cell (j := 2) rfl
        have hga := ka2.lt
        have H1 := kept h1
        have HG1 := kept hg1
        have C2 := kept (rtext_any A _ c L s w2 rfl hr2 (by omega))
        clear h1 hg1 hR0 hr2 ka2
        go_wp2_with fail
        refine C2.out.mono ?_
        rintro e w3 ⟨A3, c3, rfl, own3, hc3, hb3⟩
        have HF := kept (wants_on HB0.out hS H1.out HG1.out own3 hb3)
        clear own3 hb3
        go_wp2_with fail
        go_meet
        rw [HT.out, HPK.out]
        have hf := HF.out
        rw [List.length_append] at hf
        exact hf
      case rest =>
        obtain ⟨S', A', c', rfl, hW', hr', hap', hS', hb'⟩ := hcut
        have HF := kept (show Wants w w.heap.size (pks (ls.take (j + 1))) (.slice A' (pks (ls.take (j + 1))).length c') wc from ⟨S', A', c', rfl, hW', hr', hap', hS', hb'⟩)
        clear hW' hr' hap' hS' hb' hc0 hc1 hc2 HW HR HAP
        go_wp2
        go_roundg (gk - 1)
        case measure => omega
        case rel => exact ⟨j + 1, by omega, by go_num, HF.out⟩
    · have hje : ls.take j = ls := List.take_of_length_le (by omega)
      rw [hje] at hW hr
      rw [hje]
      have C1 := kept (wbytes_any S _ _ _ hW (by omega))
      clear hW hje
      go_wp2_with fail
      refine C1.out.mono ?_
      rintro e w1 ⟨A1, c1, rfl, own1, hc1, hb1⟩
      have hr1 := hr.next hb1
      have hb1' := below_next hb hb1
      have C2 := kept (equal_any w1 _ _ A1 A _ _ c1 c (pks ls) (pks ls) rfl rfl (pks_all ls) (pks_all ls) own1.rd hr1)
      have C3 := kept (new_any A _ c (pks ls) w1 rfl (pks_all ls) hr1 (by omega))
      rw [decide_eq_true rfl] at C2
      clear own1 hr1 hr hap hb1 hb hS
      go_wp2_with fail
      refine C2.out.mono ?_
      rintro e w' ⟨rfl, rfl⟩
      go_wp2_with fail
      refine C3.out.mono ?_
      rintro e w2 ⟨S2, g2, rfl, hR2, hS2, hb2⟩
      have hgg : w.heap.size ≤ g2 := Nat.le_trans hb1'.size (hS2 g2 hR2.2.1)
      have HB2 := kept (below_next hb1' hb2)
      have HR2 := kept hR2
      clear hR2 hS2 hb2 hb1'
      go_wp2_with fail
      go_loopg [8] ls.length (fun n i wr => ∃ j : Nat, n + j = ls.length ∧ i = .int .i64 (j : Int) ∧ Rdr wr S2 g2 ⟨pks (ls.drop j), 0⟩ ∧ Below w.heap.size w wr)
      case atStart => exact ⟨0, rfl, rfl, HR2.out, HB2.out⟩
      case round =>
        obtain ⟨j, hj, rfl, hR, hb⟩ := hrel
        by_cases hlt : j < ls.length
        · obtain ⟨x, hx⟩ : ∃ x, ls[j]? = some x := ⟨_, List.getElem?_eq_getElem hlt⟩
          obtain ⟨b, o, rfl, hbb, hcell⟩ := (r2.below hb).at_ hx
          have hc0 := hcell 0 _ rfl
          have hc1 := hcell 1 _ rfl
          have hc2 := hcell 2 _ rfl
          rw [show thingE.k = 3 from rfl] at hc0 hc1 hc2
          rw [Nat.add_zero] at hc0
          rw [← Nat.add_assoc] at hc1 hc2
          obtain ⟨hx1, hx2, hx3⟩ := has x (List.mem_of_getElem? hx)
          have hT2 := pks_drop hx
          obtain ⟨k, v, s⟩ := x
          dsimp only at hc0 hc1 hc2 hx1 hx2 hx3
          rw [hT2] at hR
          generalize hRR : pks (ls.drop (j + 1)) = R at *
          have HRR := kept hRR
          have HR := kept hR
          clear hR hcell hx hRR hT2
          go_upto_block 5 with fail
          go_cut [10] (fun p wx => p = .bool true ∧ Rdr wx S2 g2 ⟨R, 0⟩ ∧ Below w.heap.size w wx)
          case first =>
            obtain ⟨w0, hw0⟩ : ∃ w0, wr.alloc (.cells #[.int .u8 (k : Int), .int .u64 (v : Int), .string s] 108) = w0 := ⟨_, rfl⟩
            have ka := Blk.new wr [.int .u8 (k : Int), .int .u64 (v : Int), .string s] 108
            have hba := (Below.refl wr.heap.size wr).alloc (Nat.le_refl _) (.cells #[.int .u8 (k : Int), .int .u64 (v : Int), .string s] 108)
            rw [hw0] at ka hba ⊢
            have hR0 := HR.out.next hba
            have HB0 := kept (below_next hb hba)
            have hag : wr.heap.size ≠ g2 := by have := HR.out.2.2.1 g2 HR.out.2.1; omega
            have ha1 := ka.cell (j := 1) rfl
            have ha2 := ka.cell (j := 2) rfl
            have hga := ka.lt
            clear hw0 HR hc0 hc1 hc2 hb hbb hba ka
            generalize wr.heap.size = ga at *
            by_cases h0 : k = 0
            · subst h0
              rw [show pk ⟨0, v, s⟩ = numB v from by unfold pk; rw [if_pos rfl]] at hR0
              have hT2 := trivial
              have C1 := kept (fun W hW => num_any S2 g2 ⟨numB v ++ R, 0⟩ W hW)
              obtain ⟨e1, e2⟩ := num_back hx2 R
              rw [e1, e2] at C1
              clear hT2
              go_wp2_with fail
              go_region_held3 (fun W => W.cell? ⟨ga, 1, none⟩ = some (.int .u64 (v : Int))) (assumption) ((go_at_call 70; (refine (C1.out _ ?_).mono ?_; (exact hR0); rintro e w3 ⟨rfl, hR3, hu3⟩; have hv3 : Upd (fun k => k = g2) w0 w3 := (by first | exact hu3 | exact ((Upd.refl _ _).drew).trans hu3); have hc3 := (hv3.cell (p := ⟨ga, 1, none⟩) hga hag).trans ha1)))
              all_goals (go_wp2_with fail; go_meet)
              all_goals exact ⟨rfl, hR3, HB0.out.trans (hv3.below HB0.out.size (fun i _ e => by omega))⟩
            have d0 : ((k : Int) == 0) = false := by rw [beq_eq_false_iff_ne]; omega
            by_cases h1 : k = 1
            · subst h1
              rw [show pk ⟨1, v, s⟩ = [v % 256] from by unfold pk; rw [if_neg (by simp), if_pos rfl]] at hR0
              have hT2 := trivial
              have C1 := kept (fun W hW => byte_any S2 g2 ⟨[v % 256] ++ R, 0⟩ W hW)
              have hwr : IntKind.u8.wrap (v : Int) = ((v % 256 : Nat) : Int) := by rw [IntKind.wrap_u8]; omega
              generalize v % 256 = y at *
              obtain ⟨e1, e2⟩ := byte_back y R
              rw [List.singleton_append, e1, e2] at C1
              clear hT2
              go_wp2_with fail
              go_region_held3 (fun W => W.cell? ⟨ga, 1, none⟩ = some (.int .u64 (v : Int))) (assumption) ((go_at_call 74; (refine (C1.out _ ?_).mono ?_; (exact hR0); rintro e w3 ⟨rfl, hR3, hu3⟩; have hv3 : Upd (fun k => k = g2) w0 w3 := (by first | exact hu3 | exact ((Upd.refl _ _).drew).trans hu3); have hc3 := (hv3.cell (p := ⟨ga, 1, none⟩) hga hag).trans ha1)))
              all_goals (go_wp2_with fail; go_meet)
              all_goals exact ⟨rfl, hR3, HB0.out.trans (hv3.below HB0.out.size (fun i _ e => by omega))⟩
            have d1 : ((k : Int) == 1) = false := by rw [beq_eq_false_iff_ne]; omega
            by_cases h2 : k = 2
            · subst h2
              rw [show pk ⟨2, v, s⟩ = [flagN (decide (v % 2 = 1))] from by unfold pk; rw [if_neg (by simp), if_neg (by simp), if_pos rfl]] at hR0
              have hT2 := trivial
              have C1 := kept (fun W hW => flag_any S2 g2 ⟨[flagN (decide (v % 2 = 1))] ++ R, 0⟩ W hW)
              have hfl : (((v : Int) % 2) == 1) = decide (v % 2 = 1) := by
                by_cases e : v % 2 = 1
                · rw [decide_eq_true e]; simp; omega
                · rw [decide_eq_false e, beq_eq_false_iff_ne]; omega
              have hfl2 : (((v : Int).tmod 2) == 1) = decide (v % 2 = 1) := by rw [Int.tmod_eq_emod_of_nonneg (by omega)]; exact hfl
              generalize decide (v % 2 = 1) = fl at *
              obtain ⟨e1, e2⟩ := flag_back fl R
              rw [List.singleton_append, e1, e2] at C1
              clear hT2
              go_wp2_with fail
              go_region_held3 (fun W => W.cell? ⟨ga, 1, none⟩ = some (.int .u64 (v : Int))) (assumption) ((go_at_call 76; (refine (C1.out _ ?_).mono ?_; (exact hR0); rintro e w3 ⟨rfl, hR3, hu3⟩; have hv3 : Upd (fun k => k = g2) w0 w3 := (by first | exact hu3 | exact ((Upd.refl _ _).drew).trans hu3); have hc3 := (hv3.cell (p := ⟨ga, 1, none⟩) hga hag).trans ha1)))
              all_goals (go_wp2_with fail; go_meet)
              all_goals first
                | exact ⟨rfl, hR3, HB0.out.trans (hv3.below HB0.out.size (fun i _ e => by omega))⟩
                | exact ⟨congrArg Value.bool (by rw [hfl2]; exact beq_self_eq_true _), hR3, HB0.out.trans (hv3.below HB0.out.size (fun i _ e => by omega))⟩
            have d2 : ((k : Int) == 2) = false := by rw [beq_eq_false_iff_ne]; omega
            rw [show pk ⟨k, v, s⟩ = textB s from by unfold pk; rw [if_neg h0, if_neg h1, if_neg h2]] at hR0
            have hT2 := trivial
            have C1 := kept (fun W hW => text_any S2 g2 ⟨textB s ++ R, 0⟩ (s.size : Int) W hW (by omega))
            obtain ⟨e1, e2⟩ := text_back (s := s) (by omega) R
            have C1 := kept (fun W hW => (by have := C1.out W hW; rw [Int.toNat_natCast, e1, strB_sB, e2] at this; exact this : Calls Try.prog 78 #[.pointer (some ⟨g2, 0, none⟩), .int .i64 (s.size : Int)] W (Reads S2 g2 W (.string s) ⟨R, 0⟩)))
            clear hT2
            go_wp2_with fail
            go_region_held3 (fun W => W.cell? ⟨ga, 2, none⟩ = some (.string s)) (assumption) ((go_at_call 78; (refine (C1.out _ ?_).mono ?_; (exact hR0); rintro e w3 ⟨rfl, hR3, hu3⟩; have hv3 : Upd (fun k => k = g2) w0 w3 := (by first | exact hu3 | exact ((Upd.refl _ _).drew).trans hu3); have hc3 := (hv3.cell (p := ⟨ga, 2, none⟩) hga hag).trans ha2)))
            all_goals (go_wp2_with fail; go_meet)
            all_goals exact ⟨rfl, hR3, HB0.out.trans (hv3.below HB0.out.size (fun i _ e => by omega))⟩
          case rest =>
            obtain ⟨rfl, hR', hb'⟩ := hcut
            have HR' := kept hR'
            clear hR' HR hc0 hc1 hc2
            go_wp2
            go_roundg (gk - 1)
            case measure => omega
            case rel => exact ⟨j + 1, by omega, by go_num, by rw [HRR.out]; exact HR'.out, hb'⟩
        · have hje : ls.drop j = [] := List.drop_eq_nil_of_le (by omega)
          rw [hje] at hR
          have hR : Rdr wr S2 g2 ⟨[], 0⟩ := hR
          go_wp2_with fail
          refine (end_any _ _ _ _ hR).mono ?_
          rintro e w6 ⟨rfl, hp6, hu6⟩
          rw [show (RS.endR ⟨[], 0⟩).bad = 0 from rfl]
          rw [show RS.endR ⟨[], 0⟩ = ⟨[], 0⟩ from rfl] at hp6
          have hb6 := hb.trans (hu6.below hb.size (fun i _ e => by omega))
          clear hR hu6 hje
          go_wp2_with fail
          refine (left_any _ _ _ _ hp6).mono ?_
          rintro e w' ⟨rfl, rfl⟩
          clear hp6
          go_wp2_with fail
          refine (works_any _).mono ?_
          rintro e w7 ⟨rfl, hb7⟩
          go_wp2
          go_ret
          exact ⟨rfl, below_next hb6 hb7⟩
end Go.Proofs.Ytijdkbejlaebhaa.Pack
