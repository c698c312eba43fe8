/- Layer 47 (twin): the texts of a field. -/
import Derived.Test.YtfkfpanhbanljaaGreatDoorSet5
import Derived.Test.YtfkfpanhbanljaaGreatDoorSet7
import Derived.Test.YtfkfpanhbanljaaGreatDoorSet25
import Derived.Test.YtfkfpanhbanljaaGreatDoorSet13
import Derived.Deep.RegionLaw
import Derived.BigQuiet
import Derived.Deep.DeepCutAuto
namespace Go.Proofs.YtfkfpanhbanljaaGreatDoor.Twin
open Go.RowKit Go.Proofs.YtfkfpanhbanljaaGreatDoor.Mem Go.Proofs.YtfkfpanhbanljaaGreatDoor.Card

/-- the texts of a field, one behind another -/
def textsF (f : Nat) (ls : List LineM) : List ByteArray := ls.flatMap fun z => if z.f = f then z.t :: z.m else []
theorem texts_next {f : Nat} {ls : List LineM} {k : Nat} {z : LineM} (hz : ls[k]? = some z) : textsF f (ls.take (k + 1)) = textsF f (ls.take k) ++ (if z.f = f then z.t :: z.m else []) := by
  obtain ⟨h1, h2⟩ := List.getElem?_eq_some_iff.1 hz
  unfold textsF
  rw [List.take_succ_eq_append_getElem h1, h2, List.flatMap_append]
  simp
/-- a row of texts of one's own, and the card in its box -/
def TxSt (w W : World) (x : CardM) (A : Option Addr) (c : Nat) (out : List ByteArray) : Prop :=
  Below w.heap.size w W ∧ Blk W w.heap.size x.cells 31 ∧ strE.Own W (w.heap.size + 1) 9 (.slice A out.length c) out
section
variable {w W W' : World} {x : CardM} {A A2 : Option Addr} {c c2 : Nat} {out r2 : List ByteArray}
theorem TxSt.next (h : TxSt w W x A c out) (hb : Below W.heap.size W W') : TxSt w W' x A c out := ⟨h.1.trans (hb.mono h.1.size), h.2.1.next hb, h.2.2.next hb⟩
theorem TxSt.app (h : TxSt w W x A c out) (ho : strE.Own W' (w.heap.size + 1) 9 (.slice A2 r2.length c2) r2) (hu : ∀ S : Nat → Prop, (∀ k, (Value.slice A out.length c).ownBlock = some k → S k) → Upd S W W') : TxSt w W' x A2 c2 r2 := by
  have U := hu (fun k => (Value.slice A out.length c).ownBlock = some k) fun _ h => h
  have hlo : ∀ k, (Value.slice A out.length c).ownBlock = some k → w.heap.size + 1 ≤ k := fun k hk => (OwnK.under h.2.2 k hk).1
  exact ⟨h.1.trans (U.below h.1.size fun k _ e => by have := hlo k e; omega), h.2.1.upd U fun e => by have := hlo _ e; omega, ho⟩
/-- another box stays as it is -/
theorem TxSt.box (h : TxSt w W x A c out) {g : Nat} {cs : List Value} (hk : Blk W g cs 44) (hu : ∀ S : Nat → Prop, (∀ k, (Value.slice A out.length c).ownBlock = some k → S k) → Upd S W W') : Blk W' g cs 44 := by
  have U := hu (fun k => (Value.slice A out.length c).ownBlock = some k) fun _ h => h
  exact hk.upd U fun e => own_off h.2.2 hk (by decide) g e rfl
end
set_option maxRecDepth 100000 in
set_option maxHeartbeats 4000000 in
theorem ttexts_any (x : CardM) (f : Nat) (w : World) (hx : x.Ok w w.heap.size) (hl : x.ls.length ≤ 12) (hm : ∀ z ∈ x.ls, z.m.length ≤ 10) :
    Calls Tryz.prog 42 #[x.val, .int .u8 (f : Int)] w (strE.Gives 9 w (textsF f x.ls)) := by
  obtain ⟨xcid, xX, xls, xc⟩ := x
  have HX := kept hx
  have HM := kept hm
  dsimp only at hl
  have h0 : Below w.heap.size w (w.alloc (.cells #[.int .u64 (xcid : Int), .slice xX xls.length xc] 31)) := (Below.refl _ _).alloc (Nat.le_refl _) _
  have HS0 : Kept (TxSt w (w.alloc (.cells #[.int .u64 (xcid : Int), .slice xX xls.length xc] 31)) ⟨xcid, xX, xls, xc⟩ none 0 []) := ⟨⟨h0, Blk.new w _ _, Elem.Own.nilv _ _ _ _⟩⟩
  clear h0 hx hm
  unfold CardM.val
  dsimp only
  go_enter Tryz.func42, Tryz.ntmps42
  go_wp2_with fail
  go_loopw [5, 11] (fun s i wr => ∃ (k : Nat) (A : Option Addr) (c : Nat) (out : List ByteArray), k ≤ xls.length ∧ i = .int .i64 (k : Int) ∧ s = .slice A out.length c ∧ Kept (out = textsF f (xls.take k) ∧ out.length ≤ 11 * k) ∧ Kept (TxSt w wr ⟨xcid, xX, xls, xc⟩ A c out)) (fun _ i _ => xls.length - (intOf i).toNat)
  case atStart => exact ⟨0, none, 0, [], Nat.zero_le _, rfl, rfl, ⟨rfl, Nat.zero_le _⟩, HS0⟩
  case round =>
    clear HS0
    obtain ⟨k, A, c, out, hk, rfl, rfl, HO, HS⟩ := hrel
    by_cases hlt : k < xls.length
    · obtain ⟨⟨zf, zt, zA, zm, zc⟩, hz⟩ : ∃ z, xls[k]? = some z := ⟨_, List.getElem?_eq_getElem hlt⟩
      obtain ⟨b1, o1, rfl, hbB, x0, x1, x2, hzo⟩ := HX.out.2.1.at_ hz
      have hkn : (k : Int) < (xls.length : Int) := by omega
      have hzm : zm.length ≤ 10 := HM.out _ (List.mem_of_getElem? hz)
      have HNX := kept (texts_next (f := f) hz)
      have x0 := (HS.out.1.cell (p := ⟨b1, o1 + k * 3, none⟩) hbB).trans x0
      have x1 := (HS.out.1.cell (p := ⟨b1, o1 + k * 3 + 1, none⟩) hbB).trans x1
      have x2 := (HS.out.1.cell (p := ⟨b1, o1 + k * 3 + 2, none⟩) hbB).trans x2
      dsimp only at x0 x1 x2 HNX
      have hbA : Below wr.heap.size wr (wr.alloc (.cells #[.int .u8 (zf : Int), .string zt, .slice zA zm.length zc] 44)) := (Below.refl _ _).alloc (Nat.le_refl _) _
      have HS1 := kept (HS.out.next hbA)
      have HZR := kept (fun (W : World) (hb : Below w.heap.size w W) => strE_rd.2 ((hzo.1.keep fun _ hp => hb.cell hp).more hb.size))
      have HKB := kept (Blk.new wr [.int .u8 (zf : Int), .string zt, .slice zA zm.length zc] 44)
      clear hz hbA HS hzo
      by_cases he : zf = f
      · have e1 : ((zf : Int) == (f : Int)) = true := by rw [beq_iff_eq]; omega
        have HE := kept he
        clear he
        go_upto_region 6 with fail
        clear e1 x0 x1 x2
        generalize wr.alloc (.cells #[.int .u8 (zf : Int), .string zt, .slice zA zm.length zc] 44) = w1 at *
        generalize wr.heap.size = gx at *
        have hgx : gx < w1.heap.size := HKB.out.lt
        have p1 := HKB.out.cell (j := 1) rfl
        have p2 := HKB.out.cell (j := 2) rfl
        have hbT : Below w1.heap.size w1 (w1.alloc (.cells #[.string zt] 9)) := (Below.refl _ _).alloc (Nat.le_refl _) _
        have HS2 := kept (HS1.out.next hbT)
        have HKT := kept (HKB.out.next hbT)
        have q1 := HKT.out.cell (j := 1) rfl
        have q2 := HKT.out.cell (j := 2) rfl
        have HR1 : Kept (strE.Rd (w1.alloc (.cells #[.string zt] 9)).drew (w1.heap.size + 1) (some ⟨w1.heap.size, 0, none⟩) [zt]) := ⟨Rd.new w1 [.string zt] 9⟩
        have HO1 : Kept (strE.Own (w1.alloc (.cells #[.string zt] 9)).drew (w.heap.size + 1) 9 (.slice A out.length c) out) := ⟨HS2.out.2.2⟩
        have hz1 : (out.length + [zt].length) * 16 ≤ 140737488355328 := by have := HO.out.2; simp; omega
        have HZ2 : Kept (∀ r2 : List ByteArray, Kept (r2 = out ++ [zt]) → (r2.length + zm.length) * 16 ≤ 140737488355328) := ⟨fun r2 h => by have := HO.out.2; rw [h.out, List.length_append, List.length_singleton]; omega⟩
        have hbase : w.heap.size + 1 ≤ (w1.alloc (.cells #[.string zt] 9)).drew.heap.size := by have h1 := HS2.out.2.1.lt; exact h1
        have HA1 : Kept (∀ w2 A2 c2 r2, strE.Own w2 (w.heap.size + 1) 9 (.slice A2 (List.length r2) c2) r2 → (∀ S : Nat → Prop, (∀ k, (Value.slice A out.length c).ownBlock = some k → S k) → Upd S (w1.alloc (.cells #[.string zt] 9)).drew w2) → TxSt w w2 ⟨xcid, some ⟨b1, o1, none⟩, xls, xc⟩ A2 c2 r2 ∧ Blk w2 gx [.int .u8 (zf : Int), .string zt, .slice zA zm.length zc] 44) := ⟨fun w2 A2 c2 r2 ho hu => by
          have hd : TxSt w (w1.alloc (.cells #[.string zt] 9)).drew ⟨xcid, some ⟨b1, o1, none⟩, xls, xc⟩ A c out := ⟨HS2.out.1.drew, HS2.out.2.1, HS2.out.2.2⟩
          exact ⟨hd.app ho hu, hd.box HKT.out.drew hu⟩⟩
        clear HS1 hbT HS2 HKT
        go_region_law (first
          | (refine step_appEU _ strE (by rfl) (.tmp 19) (.tmp 22) 36 (by rfl) (w.heap.size + 1) 9 Tryz.underlying36 str_info (by rfl) _ out (by rfl) HO1.out _ _ _ _ [zt] (by rfl) rfl HR1.out hz1 (by decide) hbase ?_; intro A2 c2 w2 r2 hr2 hown2 hu2 hx2; obtain ⟨hS2, hK2⟩ := HA1.out w2 A2 c2 r2 hown2 hu2; have d1 := hK2.cell (j := 1) rfl; have d2 := hK2.cell (j := 2) rfl; have hz2 := HZ2.out r2 hr2; have hR2 := HZR.out w2 hS2.1; have hb2 : w.heap.size + 1 ≤ w2.heap.size := hS2.2.1.lt; clear hown2 hu2 hx2 hK2)
          | (refine step_appEU _ strE (by rfl) (.tmp 23) (.tmp 25) 36 (by rfl) (w.heap.size + 1) 9 Tryz.underlying36 str_info (by rfl) _ r2 (by rfl) hS2.2.2 _ zA zm.length zc zm (by rfl) rfl hR2 hz2 (by decide) hb2 ?_; intro A3 c3 w3 r3 hr3 hown3 hu3 hx3; have hS3 := hS2.app hown3 hu3; clear hown3 hu3 hx3))
        all_goals
          have hr4 : r3 = textsF f (xls.take (k + 1)) := by rw [hr3.out, hr2.out, HNX.out, if_pos HE.out, HO.out.1]; simp
          have hl4 : r3.length ≤ 11 * (k + 1) := by rw [hr3.out, hr2.out]; have := HO.out.2; simp; omega
          have HO4 := kept (And.intro hr4 hl4)
          have HS4 := kept hS3
          clear hr4 hl4 hS3 hr3 hr2
          go_wp2_with fail
        all_goals go_roundw
        all_goals first | exact ⟨k + 1, A3, c3, r3, by omega, by go_num, rfl, HO4, HS4⟩ | (simp [intOf]; omega)
      · have e1 : ((zf : Int) == (f : Int)) = false := by rw [beq_eq_false_iff_ne]; omega
        have HO4 : Kept (out = textsF f (xls.take (k + 1)) ∧ out.length ≤ 11 * (k + 1)) := ⟨by rw [HNX.out, if_neg he, List.append_nil]; exact HO.out.1, by have := HO.out.2; omega⟩
        clear HNX HO
        go_wp2_with fail
        go_roundw
        case rel => exact ⟨k + 1, A, c, out, by omega, by go_num, rfl, HO4, HS1⟩
        case measure => simp [intOf]; omega
    · obtain rfl : k = xls.length := by omega
      rw [List.take_length] at HO
      have HG : Kept (∀ q, q = out → strE.Gives 9 w (textsF f xls) (.returned (.slice A q.length c)) wr) := ⟨fun q hq => by
        subst hq
        exact Elem.gives HO.out.1 (HS.out.2.2.mono (by omega)) HS.out.1⟩
      go_wp2_with fail
      go_ret
      exact HG.out out rfl
end Go.Proofs.YtfkfpanhbanljaaGreatDoor.Twin
