import Derived.Test.YtfkfpanhbanljaaGreatDoorTwinAlike
import Derived.Test.YtfkfpanhbanljaaGreatDoorFoldProg
import Derived.BigQuiet
import Derived.Deep.DeepCutAuto
import Derived.OrdersHeld
import Derived.Deep.RegionHeld3
/- Layer 47 (twin): the document's texts and small. -/
namespace Go.Proofs.YtfkfpanhbanljaaGreatDoor.Twin
open Go.RowKit Go.Proofs.YtfkfpanhbanljaaGreatDoor.Mem Go.Proofs.YtfkfpanhbanljaaGreatDoor.Card Go.Proofs.YtfkfpanhbanljaaGreatDoor.Fold Go.Proofs.YtfkfpanhbanljaaGreatDoor.Laid

set_option maxRecDepth 100000 in
set_option maxHeartbeats 4000000 in
theorem rtexts_any (x : CardM) (f : Nat) (w : World) (hx : x.Ok w w.heap.size) (hl : x.ls.length ≤ 12) (hm : ∀ z ∈ x.ls, z.m.length ≤ 10) :
    Calls Tryz.prog 47 #[x.val, .int .u8 (f : Int)] w (strE.Gives 9 w (textsF f x.ls)) := by
  obtain ⟨xcid, xX, xls, xc⟩ := x
  have HX := kept hx
  have HM := kept hm
  dsimp only at hl
  have h0 : Below w.heap.size w (w.alloc (.cells #[.int .u64 (xcid : Int), .slice xX xls.length xc] 31)) := (Below.refl _ _).alloc (Nat.le_refl _) _
  have HS0 : Kept (TxSt w (w.alloc (.cells #[.int .u64 (xcid : Int), .slice xX xls.length xc] 31)) ⟨xcid, xX, xls, xc⟩ none 0 []) := ⟨⟨h0, Blk.new w _ _, Elem.Own.nilv _ _ _ _⟩⟩
  clear h0 hx hm
  unfold CardM.val
  dsimp only
  go_enter Tryz.func47, Tryz.ntmps47
  go_wp2_with fail
  go_loopw [5, 6] (fun s i wr => ∃ (k : Nat) (A : Option Addr) (c : Nat) (out : List ByteArray), k ≤ xls.length ∧ i = .int .i64 (k : Int) ∧ s = .slice A out.length c ∧ Kept (out = textsF f (xls.take k) ∧ out.length ≤ 11 * k) ∧ Kept (TxSt w wr ⟨xcid, xX, xls, xc⟩ A c out)) (fun _ i _ => xls.length - (intOf i).toNat)
  case atStart => exact ⟨0, none, 0, [], Nat.zero_le _, rfl, rfl, ⟨rfl, Nat.zero_le _⟩, HS0⟩
  case round =>
    clear HS0
    obtain ⟨k, A, c, out, hk, rfl, rfl, HO, HS⟩ := hrel
    have b1c := HS.out.2.1.cell (j := 1) rfl
    by_cases hlt : k < xls.length
    · obtain ⟨⟨zf, zt, zA, zm, zc⟩, hz⟩ : ∃ z, xls[k]? = some z := ⟨_, List.getElem?_eq_getElem hlt⟩
      obtain ⟨b1, o1, rfl, hbB, x0, x1, x2, hzo⟩ := HX.out.2.1.at_ hz
      have hkn : (k : Int) < (xls.length : Int) := by omega
      have hzm : zm.length ≤ 10 := HM.out _ (List.mem_of_getElem? hz)
      have HNX := kept (texts_next (f := f) hz)
      have HX2 := kept (fun (W : World) (hb : Below w.heap.size w W) => (hb.cell (p := ⟨b1, o1 + k * 3 + 2, none⟩) hbB).trans x2)
      have x0 := (HS.out.1.cell (p := ⟨b1, o1 + k * 3, none⟩) hbB).trans x0
      have x1 := (HS.out.1.cell (p := ⟨b1, o1 + k * 3 + 1, none⟩) hbB).trans x1
      dsimp only at x0 x1 HX2 HNX b1c
      have HZR := kept (fun (W : World) (hb : Below w.heap.size w W) => strE_rd.2 ((hzo.1.keep fun _ hp => hb.cell hp).more hb.size))
      clear hz hzo x2
      by_cases he : zf = f
      · have e1 : ((zf : Int) == (f : Int)) = true := by rw [beq_iff_eq]; omega
        have HE := kept he
        clear he
        have hbT : Below wr.heap.size wr (wr.alloc (.cells #[.string zt] 9)) := (Below.refl _ _).alloc (Nat.le_refl _) _
        have HS2 := kept (HS.out.next hbT)
        have hR1 : strE.Rd (wr.alloc (.cells #[.string zt] 9)) (wr.heap.size + 1) (some ⟨wr.heap.size, 0, none⟩) [zt] := Rd.new wr [.string zt] 9
        have hO1 := HS2.out.2.2
        have hz1 : (out.length + [zt].length) * 16 ≤ 140737488355328 := by have := HO.out.2; simp; omega
        have HZ2 : Kept (∀ r2 : List ByteArray, Kept (r2 = out ++ [zt]) → (r2.length + zm.length) * 16 ≤ 140737488355328) := ⟨fun r2 h => by have := HO.out.2; rw [h.out, List.length_append, List.length_singleton]; omega⟩
        have hbase : w.heap.size + 1 ≤ (wr.alloc (.cells #[.string zt] 9)).heap.size := by have h1 := HS2.out.2.1.lt; exact h1
        clear HS hbT
        go_wp2_with (first
          | (at_builtin; refine wpl_appEU _ strE rfl (.tmp 22) (.tmp 29) 36 rfl (w.heap.size + 1) 9 Tryz.underlying36 str_info rfl _ out rfl hO1 _ _ _ _ [zt] rfl rfl hR1 hz1 (by decide) hbase ?_; intro A2 c2 w2 r2 hr2 hown2 hu2 hx2; have hS2 := HS2.out.app hown2 hu2; have b2c := hS2.2.1.cell (j := 1) rfl; have y2 := HX2.out w2 hS2.1; have hz2 := HZ2.out r2 hr2; have hR2 := HZR.out w2 hS2.1; have hb2 : w.heap.size + 1 ≤ w2.heap.size := hS2.2.1.lt; have hO2 := hS2.2.2; have HS3 := kept hS2; dsimp only at b2c; clear hS2 hown2 hu2 hx2)
          | (at_builtin; refine wpl_appEU _ strE rfl (.tmp 31) (.tmp 37) 36 rfl (w.heap.size + 1) 9 Tryz.underlying36 str_info rfl _ r2 rfl hO2 _ zA zm.length zc zm rfl rfl hR2 hz2 (by decide) hb2 ?_; intro A3 c3 w3 r3 hr3 hown3 hu3 hx3))
        have HS4 := kept (HS3.out.app hown3 hu3)
        have hr4 : r3 = textsF f (xls.take (k + 1)) := by rw [hr3.out, hr2.out, HNX.out, if_pos HE.out, HO.out.1]; simp
        have hl4 : r3.length ≤ 11 * (k + 1) := by rw [hr3.out, hr2.out]; have := HO.out.2; simp; omega
        have HO4 := kept (And.intro hr4 hl4)
        clear hown3 hu3 hx3 hr4 hl4 hr3 hr2 hR2 hz2 hb2 hO2 HS3 b2c y2
        go_wp2_with fail
        go_roundw
        case rel => exact ⟨k + 1, A3, c3, r3, by omega, by go_num, rfl, HO4, HS4⟩
        case measure => simp [intOf]; omega
      · have e1 : ((zf : Int) == (f : Int)) = false := by rw [beq_eq_false_iff_ne]; omega
        have HO4 : Kept (out = textsF f (xls.take (k + 1)) ∧ out.length ≤ 11 * (k + 1)) := ⟨by rw [HNX.out, if_neg he, List.append_nil]; exact HO.out.1, by have := HO.out.2; omega⟩
        clear HNX HO
        go_wp2_with fail
        go_roundw
        case rel => exact ⟨k + 1, A, c, out, by omega, by go_num, rfl, HO4, HS⟩
        case measure => simp [intOf]; omega
    · obtain rfl : k = xls.length := by omega
      rw [List.take_length] at HO
      dsimp only at b1c
      have hge : ¬ (xls.length : Int) < (xls.length : Int) := by omega
      have HG : Kept (∀ q, q = out → strE.Gives 9 w (textsF f xls) (.returned (.slice A q.length c)) wr) := ⟨fun q hq => by
        subst hq
        exact Elem.gives HO.out.1 (HS.out.2.2.mono (by omega)) HS.out.1⟩
      go_wp2_with fail
      go_ret
      exact HG.out out rfl
/-- the row at work: its first k bytes made small -/
def rowS (l : List Nat) (k : Nat) : List Nat := (l.take k).map smallN ++ l.drop k
theorem rowS_length (l : List Nat) (k : Nat) (hk : k ≤ l.length) : (rowS l k).length = l.length := by unfold rowS; simp; omega
theorem rowS_get {l : List Nat} {k : Nat} (hk : k < l.length) : (rowS l k)[k]? = some (l.getD k 0) := by
  unfold rowS
  rw [List.getElem?_append_right (by simp; omega)]
  simp [List.getElem?_eq_getElem hk, Nat.min_eq_left (Nat.le_of_lt hk)]
theorem rowS_set {l : List Nat} {k : Nat} (hk : k < l.length) : (rowS l k).set k (smallN (l.getD k 0)) = rowS l (k + 1) := by
  unfold rowS
  have h1 : ((l.take k).map smallN).length = k := by simp; omega
  rw [List.set_append_right _ _ (by omega), h1, Nat.sub_self, List.drop_eq_getElem_cons hk, List.set_cons_zero, List.take_succ_eq_append_getElem hk, List.map_append, List.append_assoc]
  simp [List.getElem?_eq_getElem hk]
theorem rowS_end (l : List Nat) : rowS l l.length = l.map smallN := by unfold rowS; simp
theorem rowS_same {l : List Nat} {k : Nat} (hk : k < l.length) (h : smallN (l.getD k 0) = l.getD k 0) : rowS l (k + 1) = rowS l k := by
  rw [← rowS_set hk, h]
  refine List.ext_getElem? fun i => ?_
  rw [List.getElem?_set]
  by_cases e : k = i
  · subst e; rw [if_pos rfl, if_pos (by rw [rowS_length _ _ (Nat.le_of_lt hk)]; exact hk), rowS_get hk]
  · rw [if_neg e]
/-- a text with small letters -/
def smallB (s : ByteArray) : ByteArray := strB ((sB s).map smallN)
set_option maxRecDepth 100000 in
set_option maxHeartbeats 4000000 in
theorem rsmall_any (s : ByteArray) (w : World) (hs : s.size ≤ 140737488355000) : Calls Tryz.prog 49 #[.string s] w fun e w' => e = .returned (.string (smallB s)) ∧ Below w.heap.size w w' := by
  have HL := sB_length s
  have HA := sB_all s
  obtain ⟨c0, w0, pad, hcv, hM0, hb0⟩ := str_mblk w s
  have HSB : Kept (smallB s = strB ((sB s).map smallN)) := ⟨rfl⟩
  have hrl0 : rowS (sB s) 0 = sB s := by unfold rowS; simp
  rw [← hrl0] at hM0
  have HE := kept (rowS_end (sB s))
  clear hrl0
  generalize sB s = L at *
  have HL2 := kept HL
  go_enter Tryz.func49, Tryz.ntmps49
  go_wp2
  clear hcv
  go_loopw [4] (fun i wr => ∃ k : Nat, k ≤ s.size ∧ i = .int .i64 (k : Int) ∧ MBlk wr w.heap.size (BB (rowS L k) ++ pad) 5 ∧ Below w.heap.size w wr) (fun i _ => s.size - (intOf i).toNat)
  case atStart => exact ⟨0, Nat.zero_le _, rfl, hM0, hb0⟩
  case round =>
    obtain ⟨k, hk, rfl, hM, hbw⟩ := hrel
    by_cases hlt : k < s.size
    · have hkL : k < L.length := by rw [HL2.out]; exact hlt
      have hkn : (k : Int) < (s.size : Int) := by omega
      have hcell : wr.cell? ⟨w.heap.size, k, none⟩ = some (.int .u8 (L.getD k 0 : Int)) := hM.cell (by
        rw [List.getElem?_append_left (by rw [BB_length, rowS_length _ _ (Nat.le_of_lt hkL)]; exact hkL), BB_get _ _ (by rw [rowS_length _ _ (Nat.le_of_lt hkL)]; exact hkL)]
        simp [List.getD, rowS_get hkL])
      have hfz : wr.frozen? ⟨w.heap.size, k, none⟩ = false := hM.frozen (by rw [List.length_append, BB_length, rowS_length _ _ (Nat.le_of_lt hkL)]; omega)
      have hv : L.getD k 0 < 256 := HA _ (by simp [List.getD, List.getElem?_eq_getElem hkL])
      have HSM := kept (fun h => rowS_same hkL h)
      have hst := hM.set k (.int .u8 (smallN (L.getD k 0) : Int))
      have hst2 : BB (rowS L (k + 1)) ++ pad = (BB (rowS L k) ++ pad).set k (.int .u8 (smallN (L.getD k 0) : Int)) := by
        rw [List.set_append_left _ _ (by rw [BB_length, rowS_length _ _ (Nat.le_of_lt hkL)]; exact hkL), ← rowS_set hkL]
        unfold BB
        rw [List.map_set]
      rw [← hst2] at hst
      have HST := kept hst
      have HBS := kept (hbw.setCell (p := ⟨w.heap.size, k, none⟩) (Nat.le_refl _) (.int .u8 (smallN (L.getD k 0) : Int)))
      have hpl := hM.lt
      have HM := kept hM
      have HBW := kept hbw
      clear hst hst2 hM hbw HA
      generalize L.getD k 0 = v at *
      by_cases h1 : 65 ≤ v
      · have d1 : (65 : Int) ≤ (v : Int) := by omega
        by_cases h2 : v ≤ 90
        · have d2 : (v : Int) ≤ 90 := by omega
          have hsm : smallN v = v + 32 := by unfold smallN; rw [if_pos ⟨h1, h2⟩]
          rw [hsm, show ((v + 32 : Nat) : Int) = (v : Int) + 32 by omega] at HST HBS
          clear hsm HSM
          go_wp2_with fail
          go_roundw
          case rel => exact ⟨k + 1, by omega, by go_num, HST.out, HBS.out⟩
          case measure => simp [intOf]; omega
        · have d2 : ¬ (v : Int) ≤ 90 := by omega
          have hr := HSM.out (by unfold smallN; rw [if_neg fun h => h2 h.2])
          have HM2 := HM.out
          rw [← hr] at HM2
          have HM3 := kept HM2
          clear hr HM2 HSM HST HBS HM
          go_wp2_with fail
          go_roundw
          case rel => exact ⟨k + 1, by omega, by go_num, HM3.out, HBW.out⟩
          case measure => simp [intOf]; omega
      · have d1 : ¬ (65 : Int) ≤ (v : Int) := by omega
        have hr := HSM.out (by unfold smallN; rw [if_neg fun h => h1 h.1])
        have HM2 := HM.out
        rw [← hr] at HM2
        have HM3 := kept HM2
        clear hr HM2 HSM HST HBS HM
        go_wp2_with fail
        go_roundw
        case rel => exact ⟨k + 1, by omega, by go_num, HM3.out, HBW.out⟩
        case measure => simp [intOf]; omega
    · obtain rfl : k = L.length := by have := HL2.out; omega
      have hge : ¬ (L.length : Int) < (s.size : Int) := by have := HL2.out; omega
      have HE2 := HE.out
      have hrd := (hM.rd.take L.length)
      rw [List.take_append_of_le_length (by rw [BB_length, HE2]; simp), List.take_of_length_le (by rw [BB_length, HE2]; simp), HE2] at hrd
      have hcs := run_str wr _ _ s.size c0 _ (by rw [List.length_map]; exact HL2.out.symm) hrd
      rw [← HSB.out] at hcs
      have HBW := kept hbw
      clear hM hrd HE2 HE HA HL HSB hbw
      go_wp2_with fail
      go_ret
      exact ⟨rfl, HBW.out⟩
end Go.Proofs.YtfkfpanhbanljaaGreatDoor.Twin

/- A region that draws its order: a quiet call, or a load, that tells the same in every world that meets S may be taken first. Over any program. -/
namespace Go.Proofs.YtfkfpanhbanljaaGreatDoor.Mem
open Go

section
variable {P : Program} {ops : Array Oper} {Q : Exit → Act → World → Prop} {md : Region.Mode} {S : World → Prop}
/-- In state 'a', in every world that meets 'S', operation 'o' leaves 'v' in its temporary and does nothing else; it may be a call. -/
def YieldsR (P : Program) (ops : Array Oper) (S : World → Prop) (o : Oper) (v : Value) (a : Act) : Prop :=
  (Region.wanted o (yielded ops a.tmps) = true ∧ ∀ w, S w → ((execOp a.eval o).run P w = .ok (.value v) w ∨ ∃ f args, (execOp a.eval o).run P w = .ok (.enter f args) w ∧ Calls P f args w fun e w' => e = .returned v ∧ w' = w)) ∨
  (Region.wanted o (yielded ops a.tmps) = false ∧ v = undef)
theorem YieldsR.wpOp {i : Nat} {o : Oper} {v : Value} {a : Act} (hi : ops[i]? = some o) (hy : YieldsR P ops S o v a)
    {K : Act → World → Prop} {w : World} (hS : S w) (h : K (a.put o.dst v) w) : wpOp P ops Q i K a w := by
  unfold Go.wpOp
  simp only [hi]
  rcases hy with ⟨hw, hv⟩ | ⟨hw, rfl⟩
  · simp only [hw, if_true, Oper.wp]
    rcases hv w hS with hr | ⟨f, args, hr, hc⟩
    · simp only [hr, Oper.upon]; exact .inl h
    · simp only [hr, Oper.upon]
      refine .inl (hc.mono ?_)
      rintro e w' ⟨rfl, rfl⟩
      exact h
  · simp only [hw, Bool.false_eq_true, if_false]; exact h
theorem YieldsR.of_same {o : Oper} {v : Value} {a a' : Act} (hy : YieldsR P ops S o v a) (he : execOp a'.eval o = execOp a.eval o)
    (hw : Region.wanted o (yielded ops a'.tmps) = Region.wanted o (yielded ops a.tmps)) : YieldsR P ops S o v a' := by
  unfold YieldsR at *
  rw [he, hw]
  exact hy
theorem wpOp_putR {j : Nat} {oi oj : Oper} {v : Value} (hj : ops[j]? = some oj) (hap : oi.apart ops oj = true)
    (hsi : ∀ cs b, oi.op ≠ .select cs b) (hsj : ∀ cs b, oj.op ≠ .select cs b)
    (hQ : ∀ c a w, Q (.panic c) (a.put oi.dst v) w → Q (.panic c) a w) {K : Act → World → Prop} {a : Act} {w : World}
    (hy : YieldsR P ops S oi v a) (h : wpOp P ops Q j K (a.put oi.dst v) w) :
    wpOp P ops Q j (fun a' w' => YieldsR P ops S oi v a' ∧ K (a'.put oi.dst v) w') a w := by
  obtain ⟨h1, h2, h3⟩ := Oper.apart_spec hap
  have keep : ∀ (a : Act), YieldsR P ops S oi v a → ∀ u, YieldsR P ops S oi v (a.put oj.dst u) := fun a hy u =>
    hy.of_same (execOp_put oi hsi a oj.dst u h3) (wanted_put oi a oj.dst u h3)
  have keepD : ∀ d, YieldsR P ops S oi v { a with defers := d :: a.defers } := fun d => hy.of_same rfl rfl
  unfold wpOp at *
  simp only [hj] at *
  rw [wanted_put oj a oi.dst v h1] at h
  split
  · rename_i hw
    simp only [hw, if_true] at h
    rcases h with h | ⟨hasks, hlets⟩
    case inr => exact .inr ⟨by unfold Oper.asks at *; rw [execOp_put oj hsj a oi.dst v h1] at hasks; exact hasks, hlets⟩
    refine .inl ?_
    unfold Oper.wp at *
    rw [execOp_put oj hsj a oi.dst v h1] at h
    generalize (execOp a.eval oj).run P w = r at *
    cases r with
    | ok n w' =>
      cases n <;> simp only [Oper.upon] at h ⊢
      case value u => exact ⟨keep a hy u, by rw [← Act.put_comm a v u h2]; exact h⟩
      case skip => exact ⟨keep a hy _, by rw [← Act.put_comm a v undef h2]; exact h⟩
      case defer d =>
        refine ⟨keep _ (keepD d) _, ?_⟩
        rw [← Act.put_comm _ v undef h2, ← Act.put_defers]
        exact h
      case enter f args =>
        refine Calls.mono h fun e w'' he => ?_
        cases e with
        | returned u => exact ⟨keep a hy u, by rw [← Act.put_comm a v u h2]; exact he⟩
        | panicked c => exact hQ _ _ _ he
        | outgrown => exact he
      case row row args => exact Rows.mono h fun u w'' he => ⟨keep a hy u, by rw [← Act.put_comm a v u h2]; exact he⟩
    | halt x w' =>
      cases x <;> simp only [Oper.upon] at h ⊢
      case panic u => exact hQ _ _ _ h
  · rename_i hw
    simp only [hw] at h
    exact ⟨keep a hy _, by rw [← Act.put_comm a v undef h2]; exact h⟩
theorem wpAnyR_first {i : Nat} {oi : Oper} {v : Value} (hi : ops[i]? = some oi) (hsel : ∀ (j : Nat) (o : Oper) cs b, ops[j]? = some o → o.op ≠ .select cs b)
    (hQ : ∀ c a w, Q (.panic c) (a.put oi.dst v) w → Q (.panic c) a w) :
    ∀ (fuel : Nat) (listed : Array Bool) (a : Act) (w : World),
      (∀ j oj, ops[j]? = some oj → j ≠ i → listed.getD j true = false → (∀ e ∈ oj.after, Region.binds md e = true → e.on ≠ i) → oi.apart ops oj = true) →
      i ∈ Region.ready md ops listed → YieldsR P ops S oi v a → S w →
      wpAnyH P md ops Q S fuel (listed.setIfInBounds i true) (a.put oi.dst v) w → wpAnyH P md ops Q S (fuel + 1) listed a w := by
  intro fuel
  induction fuel with
  | zero =>
    intro listed a w _ hr hy hS H
    refine ⟨fun h => (by rw [h] at hr; cases hr), fun j hj => ?_⟩
    by_cases hji : j = i
    · subst hji; exact hy.wpOp hi hS ⟨hS, H⟩
    · have := ready_mono hj hji
      rw [H.1] at this
      cases this
  | succ fuel ih =>
    intro listed a w hfree hr hy hS H
    refine ⟨fun h => (by rw [h] at hr; cases hr), fun j hj => ?_⟩
    by_cases hji : j = i
    · subst hji; exact hy.wpOp hi hS ⟨hS, H⟩
    · have h1 := H.2 j (ready_mono hj hji)
      obtain ⟨hjun, oj, hoj, hall⟩ := mem_ready.1 hj
      have hnot : ∀ e ∈ oj.after, Region.binds md e = true → e.on ≠ i := fun e he hb heq => by
        have h1 := hall e he hb
        have h0 := (mem_ready.1 hr).1
        rw [heq] at h1
        rcases Nat.lt_or_ge i listed.size with h' | h'
        · simp [h'] at h0 h1; rw [h0] at h1; cases h1
        · simp [Array.getElem?_eq_none h'] at h1
      have h2 := wpOp_putR hoj (hfree j oj hoj hji hjun hnot) (fun cs b => hsel i oi cs b hi) (fun cs b => hsel j oj cs b hoj) hQ hy h1
      have hfree' : ∀ k ok, ops[k]? = some ok → k ≠ i → (listed.setIfInBounds j true).getD k true = false →
          (∀ e ∈ ok.after, Region.binds md e = true → e.on ≠ i) → oi.apart ops ok = true := fun k ok hk hki hun hno => by
        refine hfree k ok hk hki ?_ hno
        by_cases hjk : j = k
        · subst hjk; exact hjun
        · rw [getD_set_ne true hjk] at hun; exact hun
      refine wpOp_mono (fun a' w' h3 => ⟨h3.2.1, ih (listed.setIfInBounds j true) a' w' hfree' (ready_mono hr (Ne.symm hji)) h3.1 h3.2.1 ?_⟩) h2
      rw [Array.setIfInBounds_comm _ _ hji]
      exact h3.2.2
/-- Take number 'i' first. -/
theorem wpAnyR_take {i : Nat} {oi : Oper} {v : Value} {fuel : Nat} {listed : Array Bool} {a : Act} {w : World} (hi : ops[i]? = some oi)
    (hs : Region.noSelect ops = true) (hf : Region.free md ops listed i = true) (hr : (Region.ready md ops listed).contains i = true)
    (hQ : ∀ c a w, Q (.panic c) (a.put oi.dst v) w → Q (.panic c) a w) (hy : YieldsR P ops S oi v a) (hS : S w)
    (h : wpAnyH P md ops Q S fuel (listed.setIfInBounds i true) (a.put oi.dst v) w) : wpAnyH P md ops Q S (fuel + 1) listed a w :=
  wpAnyR_first hi (Region.noSelect_spec hs) hQ fuel listed a w (Region.free_spec hi hf) (by simpa using hr) hy hS h
end
end Go.Proofs.YtfkfpanhbanljaaGreatDoor.Mem
