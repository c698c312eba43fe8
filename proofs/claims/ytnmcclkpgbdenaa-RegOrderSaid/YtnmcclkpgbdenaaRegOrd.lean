/- Layer 14 (reg): the law RegOrder. -/
import Derived.Test.YtnmcclkpgbdenaaRegLaws
import Derived.IntWalk
namespace Go.Proofs.Ytnmcclkpgbdenaa.Reg
open Go.RowKit Go.Proofs.Ytnmcclkpgbdenaa.Mem Go.Proofs.Ytnmcclkpgbdenaa.Card Go.Proofs.Ytnmcclkpgbdenaa.LaidS

theorem dot_eql (d1 n1 d2 n2 : Nat) (w : World) : (binOp .eql 46 (.agg #[.int .u16 (d1 : Int), .int .u64 (n1 : Int)]) (.agg #[.int .u16 (d2 : Int), .int .u64 (n2 : Int)])).run Try.prog w = .ok (.bool (decide (d1 = d2) && decide (n1 = n2))) w := by
  rw [← int_beq, ← int_beq]
  cases h1 : ((d1 : Int) == (d2 : Int)) <;> cases h2 : ((n1 : Int) == (n2 : Int)) <;> go_simp
def pickI (n fr i : Nat) : Nat := (n - 1 - i + fr) % n
/-- the values in another order -/
def turned (l : List ValM) (fr : Nat) : List ValM := (List.range l.length).map fun i => l.getD (pickI l.length fr i) default
theorem pick_lt {n fr i : Nat} (h : 0 < n) : pickI n fr i < n := Nat.mod_lt _ h
theorem pick_int {n fr i : Nat} (h : i < n) : ((n : Int) - 1 - (i : Int) + (fr : Int)) % (n : Int) = (pickI n fr i : Int) := by
  unfold pickI
  rw [Int.natCast_emod]
  congr 1
  omega
theorem turned_length (l : List ValM) (fr : Nat) : (turned l fr).length = l.length := by simp [turned]
theorem turned_get {l : List ValM} {fr i : Nat} (h : i < l.length) : (turned l fr)[i]? = l[pickI l.length fr i]? := by
  unfold turned
  rw [List.getElem?_map, List.getElem?_range h, Option.map_some, List.getD]
  rw [List.getElem?_eq_getElem (pick_lt (by omega))]
  rfl
theorem turned_mem {l : List ValM} {fr : Nat} {x : ValM} : x ∈ turned l fr ↔ x ∈ l := by
  constructor
  · intro h
    obtain ⟨i, hi⟩ := List.getElem?_of_mem h
    have hlt : i < l.length := by have := (List.getElem?_eq_some_iff.1 hi).1; rwa [turned_length] at this
    rw [turned_get hlt] at hi
    exact List.mem_of_getElem? hi
  · intro h
    obtain ⟨k, hk⟩ := List.getElem?_of_mem h
    have hlt := (List.getElem?_eq_some_iff.1 hk).1
    -- the place from which k comes
    have hi : (l.length - 1 + fr - k + l.length * k) % l.length < l.length := Nat.mod_lt _ (by omega)
    refine List.mem_of_getElem? (i := (l.length - 1 + fr - k) % l.length) ?_
    have hi2 : (l.length - 1 + fr - k) % l.length < l.length := Nat.mod_lt _ (by omega)
    rw [turned_get hi2]
    have e : pickI l.length fr ((l.length - 1 + fr - k) % l.length) = k := by
      unfold pickI
      have hd := Nat.div_add_mod (l.length - 1 + fr - k) l.length
      generalize hq : (l.length - 1 + fr - k) / l.length = q at hd
      generalize hr : (l.length - 1 + fr - k) % l.length = r at hd hi2
      have e1 : l.length - 1 - r + fr = k + l.length * q := by omega
      rw [e1, Nat.add_mul_mod_self_left, Nat.mod_eq_of_lt hlt]
    rw [e]
    exact hk
/-- no two dots alike -/
def Unlike (l : List ValM) (j : Nat) : Prop := ∀ a b x y, a < b → b < j → l[a]? = some x → l[b]? = some y → ¬ (x.dev = y.dev ∧ x.n = y.n)
theorem unlike_all {l : List ValM} (h : Unlike l l.length) : ∀ x ∈ l, ∀ y ∈ l, x.dev = y.dev → x.n = y.n → x = y := by
  intro x hx y hy e1 e2
  obtain ⟨a, ha⟩ := List.getElem?_of_mem hx
  obtain ⟨b, hb⟩ := List.getElem?_of_mem hy
  have h1 := (List.getElem?_eq_some_iff.1 ha).1
  have h2 := (List.getElem?_eq_some_iff.1 hb).1
  rcases Nat.lt_trichotomy a b with h3 | h3 | h3
  · exact absurd ⟨e1, e2⟩ (h a b x y h3 h2 ha hb)
  · subst h3; exact Option.some.inj (ha.symm.trans hb)
  · exact absurd ⟨e1.symm, e2.symm⟩ (h b a y x h3 h1 hb ha)
theorem show_same {f : Nat} {l m : List ValM} (hm : ∀ x, x ∈ m ↔ x ∈ l) (hd : ∀ x ∈ l, ∀ y ∈ l, x.dev = y.dev → x.n = y.n → x = y) : showM f m = showM f l := by
  cases l with
  | nil =>
    cases m with
    | nil => rfl
    | cons x m => exact absurd ((hm x).1 List.mem_cons_self) List.not_mem_nil
  | cons x l =>
    cases m with
    | nil => exact absurd ((hm x).2 List.mem_cons_self) List.not_mem_nil
    | cons y m =>
      have hn : (x :: l) ≠ [] := fun e => by cases e
      show (f, (winM (y :: m)).t, moreM (y :: m)) = (f, (winM (x :: l)).t, moreM (x :: l))
      rw [win_same hn hm hd, more_same hn hm hd]
theorem val_info : (Try.prog.info? 48).map (fun i => (i.zero, i.size, i.bytes)) = some (some (.agg #[.int .u16 0, .int .u64 0, .string ByteArray.empty]), 3, 32) := by kernel_rfl
set_option maxRecDepth 100000 in
set_option maxHeartbeats 1000000 in
theorem order_law (f fr : Nat) (A : Option Addr) (l : List ValM) (c : Nat) (w : World) (hf : f < 256) (hfr : fr < 256) (hr : valE.Rd w w.heap.size A l) :
    Calls Try.prog 6 #[.int .u8 (f : Int), .slice A l.length c, .int .u8 (fr : Int)] w fun e w' => e = .returned (.bool true) ∧ Below w.heap.size w w' := by
  have CW := kept (fun W => works_any W)
  by_cases hbig : 60 < l.length
  · clear hr
    generalize l.length = N at *
    go_enter Try.func6, Try.ntmps6
    go_wp2_with fail
    refine (CW.out _).mono ?_
    rintro en w2 ⟨rfl, hb2⟩
    go_wp2
    go_ret
    exact ⟨rfl, hb2⟩
  have h60 : l.length ≤ 60 := by omega
  have HR := kept hr
  clear hr hbig
  go_enter Try.func6, Try.ntmps6
  go_wp2_with fail
  go_loopw [7, 8] (fun m i wr => ∃ (j : Nat) (rs : List ValM) (A' : Option Addr) (c' : Nat), j ≤ l.length ∧ i = .int .i64 (j : Int) ∧ m = .slice A' rs.length c' ∧ rs.length ≤ j ∧ Kept (rs = (turned l fr).take j ∧ Unlike l j) ∧ valE.Own wr w.heap.size 48 (.slice A' rs.length c') rs ∧ Below w.heap.size w wr) (fun _ i _ => l.length - (intOf i).toNat)
  case atStart => exact ⟨0, [], none, 0, Nat.zero_le _, rfl, rfl, Nat.zero_le _, ⟨rfl, fun a b x y _ h => absurd h (Nat.not_lt_zero _)⟩, Elem.Own.nilv _ _ _ _, Below.refl _ _⟩
  case round =>
    obtain ⟨j, rs, A', c', hj, rfl, rfl, hrl, hin, hown, hb⟩ := hrel
    obtain ⟨w1, rfl⟩ : ∃ w1 : World, w1 = wr := ⟨_, rfl⟩
    by_cases hlt : j < l.length
    · obtain ⟨x, hx⟩ : ∃ x, l[j]? = some x := ⟨_, List.getElem?_eq_getElem hlt⟩
      have hjn : (j : Int) < (l.length : Int) := by omega
      have HOW := kept hown
      have HB := kept hb
      have HX := kept hx
      clear hx hown hb
      go_wp2_with fail
      go_loopw [9] (fun k wx => ∃ (i q : Nat), i ≤ j ∧ k = .int .i64 (i : Int) ∧ w1.drewN q = wx ∧ Kept (∀ a y, a < i → l[a]? = some y → ¬ (y.dev = x.dev ∧ y.n = x.n))) (fun k _ => j - (intOf k).toNat)
      case atStart => exact ⟨0, 0, Nat.zero_le _, rfl, rfl, ⟨fun a y h => absurd h (Nat.not_lt_zero _)⟩⟩
      case round =>
        obtain ⟨i, q, hi, rfl, rfl, hun⟩ := hrel
        by_cases hil : i < j
        · obtain ⟨y, hy⟩ : ∃ y, l[i]? = some y := ⟨_, List.getElem?_eq_getElem (by omega)⟩
          obtain ⟨b, o, rfl, hbb, hcs⟩ := ((HR.out.below HB.out).drewN q).at_ HX.out
          obtain ⟨b', o', hbo, -, hds⟩ := ((HR.out.below HB.out).drewN q).at_ hy
          obtain ⟨rfl, rfl⟩ : b = b' ∧ o = o' := by injection hbo with h1; injection h1 with h2 h3 _; exact ⟨h2, h3⟩
          have c0 : w1.cell? ⟨b, o + j * 3, none⟩ = some (.int .u16 (x.dev : Int)) := hcs 0 _ rfl
          have c1 : w1.cell? ⟨b, o + j * 3 + 1, none⟩ = some (.int .u64 (x.n : Int)) := hcs 1 _ rfl
          have d0 : w1.cell? ⟨b, o + i * 3, none⟩ = some (.int .u16 (y.dev : Int)) := hds 0 _ rfl
          have d1 : w1.cell? ⟨b, o + i * 3 + 1, none⟩ = some (.int .u64 (y.n : Int)) := hds 1 _ rfl
          have hin1 : (i : Int) < (l.length : Int) := by omega
          have hq1 := fun W => dot_eql x.dev x.n y.dev y.n W
          obtain ⟨t, ht⟩ : ∃ t, (decide (x.dev = y.dev) && decide (x.n = y.n)) = t := ⟨_, rfl⟩
          rw [ht] at hq1
          have HT := kept ht
          clear hcs hds hbo ht
          cases t with
          | true =>
            clear hy
            go_wp2_with fail
            go_quiet (fail)
            go_wp2_with fail
            refine (CW.out _).mono ?_
            rintro en w2 ⟨rfl, hb2⟩
            have HB2 := kept ((HB.out.trans (below_draw w.heap.size w1 (q + nq))).trans (hb2.mono HB.out.size))
            clear hb2
            go_wp2_with fail
            go_ret
            exact ⟨rfl, HB2.out⟩
          | false =>
            have HU : Kept (∀ a y, a < i + 1 → l[a]? = some y → ¬ (y.dev = x.dev ∧ y.n = x.n)) := ⟨fun a z ha hz e => by
              by_cases hai : a = i
              · subst hai
                obtain rfl := Option.some.inj (hz.symm.trans hy)
                have := HT.out
                rw [e.1, e.2] at this
                simp at this
              · exact hun.out a z (by omega) hz e⟩
            clear hy hun HT
            go_wp2_with fail
            go_quiet (fail)
            go_wp2_with fail
            go_roundw
            case rel => exact ⟨i + 1, q + nq, by omega, by go_num, rfl, HU⟩
            case measure => simp [intOf]; omega
        · obtain rfl : i = j := by omega
          have hii : ¬ (i : Int) < (i : Int) := by omega
          have hk0 : 0 < l.length := by omega
          have hpk := pick_int (fr := fr) hlt
          have hpl := pick_lt (fr := fr) (i := i) hk0
          obtain ⟨z, hz⟩ : ∃ z, l[pickI l.length fr i]? = some z := ⟨_, List.getElem?_eq_getElem hpl⟩
          have hzt : (turned l fr)[i]? = some z := by rw [turned_get hlt]; exact hz
          obtain ⟨b, o, rfl, hbb, hcs⟩ := ((HR.out.below HB.out).drewN q).at_ hz
          obtain ⟨p, hp⟩ : ∃ p, pickI l.length fr i = p := ⟨_, rfl⟩
          rw [hp] at hpk hpl hcs
          have c0 : w1.cell? ⟨b, o + p * 3, none⟩ = some (.int .u16 (z.dev : Int)) := hcs 0 _ rfl
          have c1 : w1.cell? ⟨b, o + p * 3 + 1, none⟩ = some (.int .u64 (z.n : Int)) := hcs 1 _ rfl
          have c2 : w1.cell? ⟨b, o + p * 3 + 2, none⟩ = some (.string z.t) := hcs 2 _ rfl
          have HN : Kept (rs ++ [z] = (turned l fr).take (i + 1)) := ⟨by
            obtain ⟨h1, h2⟩ := List.getElem?_eq_some_iff.1 hzt
            rw [List.take_succ_eq_append_getElem h1, h2, ← hin.out.1]⟩
          have HU : Kept (Unlike l (i + 1)) := ⟨fun a b' x' y' hab hb' ha' hb'' e => by
            by_cases hbi : b' = i
            · subst hbi
              obtain rfl := Option.some.inj (HX.out.symm.trans hb'')
              exact hun.out a x' hab ha' e
            · exact hin.out.2 a b' x' y' hab (by omega) ha' hb'' e⟩
          have hpn : (p : Int) < (l.length : Int) := by omega
          clear hcs hz hzt hp hun hin
          have hsw := HB.out.size
          have hbB : Below w.heap.size w ((w1.drewN q).alloc (.cells #[.int .u16 (z.dev : Int), .int .u64 (z.n : Int), .string z.t] 48)) := (HB.out.trans (below_draw w.heap.size w1 q)).alloc (by simp; omega) _
          have hoB : valE.Own ((w1.drewN q).alloc (.cells #[.int .u16 (z.dev : Int), .int .u64 (z.n : Int), .string z.t] 48)) w.heap.size 48 (.slice A' rs.length c') rs := (HOW.out.drewN q).alloc _
          have hrn : valE.Rd ((w1.drewN q).alloc (.cells #[.int .u16 (z.dev : Int), .int .u64 (z.n : Int), .string z.t] 48)) (w1.heap.size + 1) (some ⟨w1.heap.size, 0, none⟩) [z] := Rd.new (w1.drewN q) [.int .u16 (z.dev : Int), .int .u64 (z.n : Int), .string z.t] 48
          have hzz : (rs.length + [z].length) * 32 ≤ 140737488355328 := by simp; omega
          have hbase : w.heap.size ≤ ((w1.drewN q).alloc (.cells #[.int .u16 (z.dev : Int), .int .u64 (z.n : Int), .string z.t] 48)).heap.size := by simp; omega
          clear HOW HB
          go_wp2_with (at_builtin; refine wpl_appE _ valE rfl (.tmp 41) (.tmp 56) 43 rfl w.heap.size 48 Try.underlying43 val_info rfl _ rs rfl hoB _ _ _ _ [z] rfl rfl hrn hzz (by decide) hbase ?_; intro A2 c2' w2 r2 hr2 hown2 hb2)
          have hb9 := hbB.trans hb2
          have HN2 : Kept (r2 = (turned l fr).take (i + 1) ∧ Unlike l (i + 1)) := ⟨by rw [hr2.out, HN.out], HU.out⟩
          have hl2 : r2.length ≤ i + 1 := by rw [hr2.out, List.length_append, List.length_singleton]; omega
          clear hr2 hoB hrn hbB hb2 c0 c1 c2 HN HU
          go_wp2_with fail
          go_roundw
          case rel => exact ⟨i + 1, r2, A2, c2', by omega, by go_num, rfl, hl2, HN2, hown2, hb9⟩
          case measure => simp [intOf]; omega
    · obtain rfl : j = l.length := by omega
      have hjn : ¬ (l.length : Int) < (l.length : Int) := by omega
      have hrs : rs = turned l fr := by rw [hin.out.1, List.take_of_length_le (by rw [turned_length]; omega)]
      have hss : showM f rs = showM f l := by rw [hrs]; exact show_same (fun x => turned_mem) (unlike_all hin.out.2)
      have CA := kept (show_any f A l c w1 hf (HR.out.next hb) (by omega))
      have CB := kept (fun (W : World) (hB : Below w1.heap.size w1 W) => show_any f A' rs c' W hf (hown.rd.next hB) (by omega))
      have CT := kept (fun (W : World) (hB : Below w.heap.size w W) => texts_any' A l c W (HR.out.next hB) (by omega))
      rw [hss] at CB
      have HB := kept hb
      have HML := kept (more_length (l := l))
      have HMI := kept (more_inc l)
      have HMN := kept (fun s => @more_not l s)
      have HSH : Kept (showM f l = if l.isEmpty then (0, ⟨#[]⟩, []) else (f, (winM l).t, moreM l)) := ⟨rfl⟩
      clear hin hrs hss hown hb
      go_wp2_with fail
      refine CA.out.mono ?_
      rintro e w2 ⟨y, rfl, hy, hoky, hb2⟩
      have CB2 := kept (CB.out _ hb2)
      obtain ⟨yf, yt, yA, ym, yc⟩ := y
      have HY := kept (And.intro hy hoky)
      have HB2 := kept (HB.out.trans (hb2.mono HB.out.size))
      clear hy hoky hb2 CA CB HB
      unfold LineM.val
      dsimp only
      go_wp2_with fail
      refine CB2.out.mono ?_
      rintro e w3 ⟨z, rfl, hz, hokz, hb3⟩
      obtain ⟨zf, zt, zA, zm, zc⟩ := z
      have HY3 := kept (And.intro HY.out.1 (HY.out.2.next hb3))
      have HZ := kept (And.intro hz hokz)
      have HB3 := kept (HB2.out.trans (hb3.mono HB2.out.size))
      clear hz hokz hb3 CB2 HB2 HY
      unfold LineM.val
      dsimp only
      have hbA : Below w3.heap.size w3 ((w3.alloc (.cells #[.int .u8 (yf : Int), .string yt, .slice yA ym.length yc] 41)).alloc (.cells #[.int .u8 (zf : Int), .string zt, .slice zA zm.length zc] 41)) := ((Below.refl _ _).alloc (Nat.le_refl _) _).alloc (by simp) _
      have HKY := kept ((Blk.new w3 [.int .u8 (yf : Int), .string yt, .slice yA ym.length yc] 41).alloc (.cells #[.int .u8 (zf : Int), .string zt, .slice zA zm.length zc] 41))
      have HKZ := kept (Blk.newAt (w3.alloc (.cells #[.int .u8 (yf : Int), .string yt, .slice yA ym.length yc] 41)) [.int .u8 (zf : Int), .string zt, .slice zA zm.length zc] 41 (g := w3.heap.size + 1) (by simp))
      have hbA2 := HB3.out.trans (hbA.mono HB3.out.size)
      have CT2 := kept (CT.out _ hbA2)
      have HYA := kept (And.intro HY3.out.1 (HY3.out.2.next hbA))
      have HZA := kept (And.intro HZ.out.1 (HZ.out.2.next hbA))
      have HBA := kept hbA2
      clear hbA hbA2 HY3 HZ HB3 CT
      go_wp2_with fail
      refine CT2.out.mono ?_
      rintro e w4 ⟨A4, c4, rfl, -, -, hb4⟩
      have HK1 := kept (HKY.out.next hb4)
      have HK2 := kept (HKZ.out.next hb4)
      have HY4 := kept (And.intro HYA.out.1 (HYA.out.2.next hb4))
      have HZ4 := kept (And.intro HZA.out.1 (HZA.out.2.next hb4))
      have HB4 := kept (HBA.out.trans (hb4.mono HBA.out.size))
      generalize w3.heap.size = g at *
      clear hb4 CT2 HKY HKZ HYA HZA HBA
      -- what the line says
      have hsum : (l = [] ∧ ym = [] ∧ (textsT (txt l)).length = 0) ∨ (l ≠ [] ∧ ym = moreM l ∧ yt = (winM l).t ∧ ym.length + 1 = (textsT (txt l)).length) := by
        have h1 := HY4.out.1
        rw [HSH.out] at h1
        cases l with
        | nil =>
          left
          have h2 : (yf, yt, ym) = (0, (⟨#[]⟩ : ByteArray), ([] : List ByteArray)) := h1
          simp only [Prod.mk.injEq] at h2
          exact ⟨rfl, h2.2.2, by have := texts_length (txt []); simpa [txt] using this⟩
        | cons x l =>
          right
          have h2 : (yf, yt, ym) = (f, (winM (x :: l)).t, moreM (x :: l)) := h1
          simp only [Prod.mk.injEq] at h2
          exact ⟨(fun e => by cases e), h2.2.2, h2.2.1, (by rw [h2.2.2]; exact HML.out (fun e => by cases e))⟩
      have hym : ym.length ≤ 60 := by
        have := more_le l
        rcases hsum with ⟨-, e, -⟩ | ⟨-, e, -, -⟩
        · rw [e]; simp
        · rw [e]; omega
      have hnot : ∀ s, s ∈ ym → s ≠ yt := fun s hs => by
        rcases hsum with ⟨-, e, -⟩ | ⟨-, e, e2, -⟩
        · rw [e] at hs; cases hs
        · rw [e2]; rw [e] at hs; exact HMN.out s hs
      have hinc : IncT ym := by
        rcases hsum with ⟨-, e, -⟩ | ⟨-, e, e2, -⟩
        · rw [e]; exact List.Pairwise.nil
        · rw [e]; exact HMI.out
      have hlen : (textsT (txt l)).length = 0 ∨ ym.length + 1 = (textsT (txt l)).length := by
        rcases hsum with ⟨-, -, e⟩ | ⟨-, -, -, e⟩
        · exact .inl e
        · exact .inr e
      have HNOT := kept hnot
      have HINC := kept hinc
      have HLEN := kept hlen
      clear hsum hnot hinc hlen HML HMI HMN HSH
      generalize (textsT (txt l)).length = tn at *
      go_wp2_with fail
      go_loopw [13] (fun k wx => ∃ (i q : Nat), i ≤ ym.length ∧ k = .int .i64 (i : Int) ∧ w4.drewN q = wx) (fun k _ => ym.length - (intOf k).toNat)
      case atStart => exact ⟨0, 0, Nat.zero_le _, rfl, rfl⟩
      case round =>
        obtain ⟨i, q, hi, rfl, rfl⟩ := hrel
        have y1 : w4.cell? ⟨g, 1, none⟩ = some (.string yt) := HK1.out.cell (j := 1) rfl
        have y2 : w4.cell? ⟨g, 2, none⟩ = some (.slice yA ym.length yc) := HK1.out.cell (j := 2) rfl
        by_cases hil : i < ym.length
        · have hiln : (i : Int) < (ym.length : Int) := by omega
          obtain ⟨b, o, rfl, -, hcx⟩ := HY4.out.2.1.at_ (SB_get ym i hil)
          obtain ⟨x, hx⟩ : ∃ x, ym.getD i ByteArray.empty = x := ⟨_, rfl⟩
          rw [hx] at hcx
          have hxg : ym[i] = x := by rw [← hx]; simp [List.getD, hil]
          have hxm : x ∈ ym := by rw [← hxg]; exact List.getElem_mem hil
          have he : (x.toList == yt.toList) = false := by rw [str_beq]; exact decide_eq_false (HNOT.out x hxm)
          rcases Nat.eq_zero_or_pos i with h0 | h0
          · subst h0
            rw [Nat.add_zero] at hcx
            clear hx hxg hxm
            go_wp2_with fail
            go_quiet (fail)
            go_wp2_with fail
            go_roundw
            case rel => exact ⟨1, q + nq, by omega, rfl, rfl⟩
            case measure => simp [intOf]; omega
          · obtain ⟨i', rfl⟩ : ∃ i', i = i' + 1 := ⟨i - 1, by omega⟩
            obtain ⟨b', o', hbo, -, hcp⟩ := HY4.out.2.1.at_ (SB_get ym i' (by omega))
            obtain ⟨rfl, rfl⟩ : b = b' ∧ o = o' := by injection hbo with h1; injection h1 with h2 h3 _; exact ⟨h2, h3⟩
            obtain ⟨p, hp⟩ : ∃ p, ym.getD i' ByteArray.empty = p := ⟨_, rfl⟩
            rw [hp] at hcp
            have hpg : ym[i'] = p := by rw [← hp]; simp [List.getD, show i' < ym.length by omega]
            have hbl : Op.bytesLess p.toList x.toList = true := by
              rw [less_tb, ← hpg, ← hxg]
              exact decide_eq_true (List.pairwise_iff_getElem.1 HINC.out i' (i' + 1) (by omega) hil (by omega))
            have e1 : IntKind.i64.wrap (i' : Int) = (i' : Int) := IntWalk.i64_in _ (by omega)
            have e2 : (0 : Int) ≤ (i' : Int) := by omega
            have e3 : (i' : Int) < (ym.length : Int) := by omega
            clear hx hxg hxm hbo hp hpg
            go_wp2_with fail
            go_quiet (fail)
            go_wp2_with fail
            go_roundw
            case rel => exact ⟨i' + 2, q + nq, by omega, by go_num, rfl⟩
            case measure => simp [intOf]; omega
        · obtain rfl : i = ym.length := by omega
          have hiln : ¬ (ym.length : Int) < (ym.length : Int) := by omega
          have y0 : w4.cell? ⟨g, 0, none⟩ = some (.int .u8 (yf : Int)) := HK1.out.cell (j := 0) rfl
          have z0 : w4.cell? ⟨g + 1, 0, none⟩ = some (.int .u8 (zf : Int)) := HK2.out.cell (j := 0) rfl
          have z1 : w4.cell? ⟨g + 1, 1, none⟩ = some (.string zt) := HK2.out.cell (j := 1) rfl
          have z2 : w4.cell? ⟨g + 1, 2, none⟩ = some (.slice zA zm.length zc) := HK2.out.cell (j := 2) rfl
          have hgl : g + 1 < w4.heap.size := HK2.out.lt
          have za0 : ((w4.drewN q).alloc (.cells #[.int .u8 (yf : Int), .string yt, .slice yA ym.length yc] 41)).cell? ⟨g + 1, 0, none⟩ = some (.int .u8 (zf : Int)) := (World.cell?_alloc_lt (w4.drewN q) _ ⟨g + 1, 0, none⟩ hgl).trans z0
          have za1 : ((w4.drewN q).alloc (.cells #[.int .u8 (yf : Int), .string yt, .slice yA ym.length yc] 41)).cell? ⟨g + 1, 1, none⟩ = some (.string zt) := (World.cell?_alloc_lt (w4.drewN q) _ ⟨g + 1, 1, none⟩ hgl).trans z1
          have za2 : ((w4.drewN q).alloc (.cells #[.int .u8 (yf : Int), .string yt, .slice yA ym.length yc] 41)).cell? ⟨g + 1, 2, none⟩ = some (.slice zA zm.length zc) := (World.cell?_alloc_lt (w4.drewN q) _ ⟨g + 1, 2, none⟩ hgl).trans z2
          have hbA : Below w4.heap.size w4 (((w4.drewN q).alloc (.cells #[.int .u8 (yf : Int), .string yt, .slice yA ym.length yc] 41)).alloc (.cells #[.int .u8 (zf : Int), .string zt, .slice zA zm.length zc] 41)) := ((below_draw w4.heap.size w4 q).alloc (by simp) _).alloc (by simp) _
          have hk1 : Blk (((w4.drewN q).alloc (.cells #[.int .u8 (yf : Int), .string yt, .slice yA ym.length yc] 41)).alloc (.cells #[.int .u8 (zf : Int), .string zt, .slice zA zm.length zc] 41)) w4.heap.size (⟨yf, yt, yA, ym, yc⟩ : LineM).cells 41 := (Blk.new (w4.drewN q) (⟨yf, yt, yA, ym, yc⟩ : LineM).cells _).alloc _
          have hk2 : Blk (((w4.drewN q).alloc (.cells #[.int .u8 (yf : Int), .string yt, .slice yA ym.length yc] 41)).alloc (.cells #[.int .u8 (zf : Int), .string zt, .slice zA zm.length zc] 41)) (w4.heap.size + 1) (⟨zf, zt, zA, zm, zc⟩ : LineM).cells 41 := Blk.newAt ((w4.drewN q).alloc (.cells #[.int .u8 (yf : Int), .string yt, .slice yA ym.length yc] 41)) (⟨zf, zt, zA, zm, zc⟩ : LineM).cells _ (by simp)
          have CL := kept (rlines_any (some ⟨w4.heap.size, 0, none⟩) (some ⟨w4.heap.size + 1, 0, none⟩) 1 1 1 1 [⟨yf, yt, yA, ym, yc⟩] [⟨zf, zt, zA, zm, zc⟩] _ rfl rfl (lines_one hk1 hk1.lt (HY4.out.2.next hbA)) (lines_one hk2 hk2.lt (HZ4.out.2.next hbA)) (by simp))
          have e : ([(⟨yf, yt, yA, ym, yc⟩ : LineM)].map LineM.p = [(⟨zf, zt, zA, zm, zc⟩ : LineM)].map LineM.p) := by simp only [List.map_cons, List.map_nil]; rw [HY4.out.1, HZ4.out.1]
          rw [decide_eq_true e] at CL
          have HBW := kept (HB4.out.trans (hbA.mono HB4.out.size))
          have hl := HLEN.out
          have yb2 : (((w4.drewN q).alloc (.cells #[.int .u8 (yf : Int), .string yt, .slice yA ym.length yc] 41)).alloc (.cells #[.int .u8 (zf : Int), .string zt, .slice zA zm.length zc] 41)).cell? ⟨g, 2, none⟩ = some (.slice yA ym.length yc) := (hbA.cell (p := ⟨g, 2, none⟩) (by show g < _; omega)).trans y2
          clear e hk1 hk2 hbA HY4 HZ4 HK1 HK2 HNOT HINC HLEN HB4
          rcases hl with rfl | rfl
          all_goals
            go_wp2_with fail
            refine CL.out.mono ?_
            rintro e w11 ⟨rfl, q2, rfl⟩
            have HB11 := kept (HBW.out.trans (below_draw w.heap.size _ q2))
            go_wp2_with fail
            refine (CW.out _).mono ?_
            rintro e w12 ⟨rfl, hb12⟩
            have HB12 := kept (HB11.out.trans (hb12.mono HB11.out.size))
            clear hb12
            go_wp2_with fail
            go_ret
            exact ⟨rfl, HB12.out⟩
end Go.Proofs.Ytnmcclkpgbdenaa.Reg
