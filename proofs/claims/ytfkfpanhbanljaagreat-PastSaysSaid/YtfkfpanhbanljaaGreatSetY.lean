import Derived.Test.YtfkfpanhbanljaaGreatSetD
import Derived.BigQuiet
import Derived.Deep.QuietTactic
import Derived.Deep.DeepCutAuto
/- Layer 41 (past): what the document's facts tell. No program in sight. -/
namespace Go.Proofs.YtfkfpanhbanljaaGreat.Past
open Go.RowKit Go.Proofs.YtfkfpanhbanljaaGreat.Mem Go.Proofs.YtfkfpanhbanljaaGreat.Mask

/-- what counts of a fact -/
def FactM.q (f : FactM) : EvM × List Nat := (f.e, f.m)
theorem q_len {a b : List FactM} (h : a.map FactM.q = b.map FactM.q) : a.length = b.length := by
  have := congrArg List.length h
  rwa [List.length_map, List.length_map] at this
theorem q_get {a b : List FactM} (h : a.map FactM.q = b.map FactM.q) (i : Nat) : (a.getD i default).e = (b.getD i default).e ∧ (a.getD i default).m = (b.getD i default).m := by
  have h1 : (a.map FactM.q)[i]? = (b.map FactM.q)[i]? := by rw [h]
  rw [List.getElem?_map, List.getElem?_map] at h1
  simp only [List.getD]
  cases ha : a[i]? with
  | none =>
    rw [ha] at h1
    cases hb : b[i]? with
    | none => exact ⟨rfl, rfl⟩
    | some y => rw [hb] at h1; cases h1
  | some x =>
    rw [ha] at h1
    cases hb : b[i]? with
    | none => rw [hb] at h1; cases h1
    | some y =>
      rw [hb] at h1
      have h2 : FactM.q x = FactM.q y := Option.some.inj h1
      exact ⟨congrArg Prod.fst h2, congrArg Prod.snd h2⟩
theorem outs_q {a b : List FactM} (h : a.map FactM.q = b.map FactM.q) (n k : Int) : outsM a n k = outsM b n k := by
  unfold outsM
  rw [q_len h, (q_get h n.toNat).1, (q_get h n.toNat).2, (q_get h k.toNat).1]
/-- of a set the numbers below another one -/
def belowM (m : List Nat) (n : Nat) : List Nat := ofI (((List.range n).filter (hasN m)).map fun k : Nat => (k : Int))
theorem below_next (m : List Nat) (n : Nat) : belowM m (n + 1) = if hasN m n then putI (belowM m n) (n : Int) else belowM m n := by
  unfold belowM ofI
  rw [List.range_succ, List.filter_append, List.map_append, List.foldl_append]
  by_cases h : hasN m n = true
  · rw [if_pos h, List.filter_cons, if_pos h]; rfl
  · rw [if_neg h, List.filter_cons, if_neg h]; rfl
theorem of_ext {a b : List Int} (h : ∀ n : Nat, hasI (ofI a) (n : Int) = hasI (ofI b) (n : Int)) : ofI a = ofI b := by
  have e : ∀ (s : List Nat) (n : Nat), hasI s (n : Int) = hasN s n := fun s n => by simp [hasI]
  have h2 := set_ext (of_all a) (of_all b) fun n => by rw [← e, ← e, h n]
  rwa [of_trim, of_trim] at h2
theorem hasI_below (m : List Nat) (N : Nat) (x : Int) : hasI (belowM m N) x = true ↔ 0 ≤ x ∧ x < 1024 ∧ x < (N : Int) ∧ hasI m x = true := by
  unfold belowM
  rw [hasI_of]
  constructor
  · rintro ⟨h1, h2, h3⟩
    obtain ⟨k, hk, rfl⟩ := List.mem_map.1 h3
    obtain ⟨h4, h5⟩ := List.mem_filter.1 hk
    have := List.mem_range.1 h4
    exact ⟨h1, h2, by omega, by simpa [hasI] using h5⟩
  · rintro ⟨h1, h2, h3, h4⟩
    refine ⟨h1, h2, List.mem_map.2 ⟨x.toNat, List.mem_filter.2 ⟨List.mem_range.2 (by omega), ?_⟩, by omega⟩⟩
    simpa [hasI, h1] using h4
theorem below_there (m : List Nat) (N : Nat) : belowM m N = thereM N m := by
  have h := of_ext (a := ((List.range N).filter (hasN m)).map fun k : Nat => (k : Int)) (b := (allI m).filter fun n => decide (n < (N : Int))) fun n => by
    rw [Bool.eq_iff_iff]
    exact (hasI_below m N n).trans (hasI_there N m n).symm
  exact h
/-- which facts are live: the document's -/
def rkeepM (fs : List FactM) (s : List Nat) (k : Nat) : Bool := (hasN s k && decide ((fs.getD k default).e.kind = 1)) && !(List.range fs.length).any fun n => outsM fs (n : Int) (k : Int) && hasN s n
def rliveTo (fs : List FactM) (s : List Nat) (j : Nat) : List Nat := ofI (((List.range j).filter (rkeepM fs s)).map fun k : Nat => (k : Int))
theorem rlive_next (fs : List FactM) (s : List Nat) (n : Nat) : rliveTo fs s (n + 1) = if rkeepM fs s n then putI (rliveTo fs s n) (n : Int) else rliveTo fs s n := by
  unfold rliveTo ofI
  rw [List.range_succ, List.filter_append, List.map_append, List.foldl_append]
  by_cases h : rkeepM fs s n = true
  · rw [if_pos h, List.filter_cons, if_pos h]; rfl
  · rw [if_neg h, List.filter_cons, if_neg h]; rfl
theorem rlive_live {fs : List FactM} (hf : fs.length ≤ 1024) (s : List Nat) : rliveTo fs s fs.length = liveM fs s := by
  refine of_ext (a := ((List.range fs.length).filter (rkeepM fs s)).map fun k : Nat => (k : Int)) (b := (allI (thereM fs.length s)).filter fun k => keepM fs (thereM fs.length s) k) fun n => ?_
  rw [Bool.eq_iff_iff]
  refine Iff.trans ?_ (hasI_live hf s n).symm
  rw [hasI_of]
  have e : ∀ (n : Nat), hasI s (n : Int) = hasN s n := fun n => by simp [hasI]
  constructor
  · rintro ⟨h1, h2, h3⟩
    obtain ⟨k, hk, h4⟩ := List.mem_map.1 h3
    obtain rfl : k = n := by omega
    obtain ⟨h5, h6⟩ := List.mem_filter.1 hk
    unfold rkeepM at h6
    rw [Bool.and_eq_true, Bool.and_eq_true, decide_eq_true_iff, Bool.not_eq_true', List.any_eq_false] at h6
    have := List.mem_range.1 h5
    refine ⟨h1, by omega, (e k).trans h6.1.1, h6.1.2, fun j a b c => ?_⟩
    have h7 := h6.2 j.toNat (List.mem_range.2 (by omega))
    have e2 : ((j.toNat : Nat) : Int) = j := by omega
    rw [e2, ← e, e2, c, Bool.and_true, Bool.not_eq_true] at h7
    exact h7
  · rintro ⟨h1, h2, h3, h4, h5⟩
    refine ⟨h1, by omega, List.mem_map.2 ⟨n, List.mem_filter.2 ⟨List.mem_range.2 (by omega), ?_⟩, rfl⟩⟩
    unfold rkeepM
    rw [Bool.and_eq_true, Bool.and_eq_true, decide_eq_true_iff, Bool.not_eq_true', List.any_eq_false]
    refine ⟨⟨(e n).symm.trans h3, h4⟩, fun j hj => ?_⟩
    have := List.mem_range.1 hj
    rw [Bool.and_eq_true, ← e]
    rintro ⟨a, b⟩
    rw [h5 j (by omega) (by omega) b] at a
    cases a
/-- the events of a set -/
def evsM (fs : List FactM) (s : List Nat) : List EvM := (allI s).map fun k => (fs.getD k.toNat default).e
def revsTo (fs : List FactM) (s : List Nat) (j : Nat) : List EvM := ((List.range j).filter (hasN s)).map fun k => (fs.getD k default).e
theorem revs_next (fs : List FactM) (s : List Nat) (n : Nat) : revsTo fs s (n + 1) = revsTo fs s n ++ if hasN s n then [(fs.getD n default).e] else [] := by
  unfold revsTo
  rw [List.range_succ, List.filter_append, List.map_append]
  by_cases h : hasN s n = true
  · rw [if_pos h, List.filter_cons, if_pos h]; rfl
  · rw [if_neg h, List.filter_cons, if_neg h]; rfl
theorem range_filter {p : Nat → Bool} {a b : Nat} (h : ∀ n, p n = true → n < a ∧ n < b) : (List.range a).filter p = (List.range b).filter p := by
  have key : ∀ d a : Nat, (∀ n, p n = true → n < a) → (List.range (a + d)).filter p = (List.range a).filter p := by
    intro d a ha
    induction d with
    | zero => rfl
    | succ d ih =>
      rw [← Nat.add_assoc, List.range_succ, List.filter_append, ih, List.filter_cons, if_neg (fun h => by have := ha _ h; omega), List.filter_nil, List.append_nil]
  rcases Nat.le_total a b with hab | hab
  · have := key (b - a) a fun n hn => (h n hn).1
    rw [Nat.add_sub_cancel' hab] at this
    exact this.symm
  · have := key (a - b) b fun n hn => (h n hn).2
    rw [Nat.add_sub_cancel' hab] at this
    exact this
theorem revs_evs {fs : List FactM} (hf : fs.length ≤ 1024) (s : List Nat) : revsTo fs (liveM fs s) fs.length = evsM fs (liveM fs s) := by
  unfold revsTo evsM allI allTo
  rw [List.map_map]
  rw [range_filter (a := fs.length) (b := 64 * (liveM fs s).length) fun n hn => ?_]
  · rfl
  · have e : hasI (liveM fs s) (n : Int) = true := by simp [hasI, hn]
    have h1 := (hasI_live hf s n).1 e
    refine ⟨by omega, ?_⟩
    rcases Nat.lt_or_ge n (64 * (liveM fs s).length) with h2 | h2
    · exact h2
    · rw [hasN_out h2] at hn; cases hn
theorem live_q {a b : List FactM} (h : a.map FactM.q = b.map FactM.q) (hf : a.length ≤ 1024) (s : List Nat) : liveM a s = liveM b s := by
  refine of_ext (a := (allI (thereM a.length s)).filter fun k => keepM a (thereM a.length s) k) (b := (allI (thereM b.length s)).filter fun k => keepM b (thereM b.length s) k) fun n => ?_
  rw [Bool.eq_iff_iff]
  refine (hasI_live hf s n).trans (Iff.trans ?_ (hasI_live (by rw [← q_len h]; exact hf) s n).symm)
  rw [q_len h, (q_get h _).1]
  constructor
  · rintro ⟨h1, h2, h3, h4, h5⟩
    exact ⟨h1, h2, h3, h4, fun j a b c => (outs_q h j n).symm.trans (h5 j a b c)⟩
  · rintro ⟨h1, h2, h3, h4, h5⟩
    exact ⟨h1, h2, h3, h4, fun j a b c => (outs_q h j n).trans (h5 j a b c)⟩
theorem evs_q {a b : List FactM} (h : a.map FactM.q = b.map FactM.q) (s : List Nat) : evsM a s = evsM b s := by
  unfold evsM
  exact List.map_congr_left fun k _ => (q_get h _).1
theorem evs_length {fs : List FactM} (hf : fs.length ≤ 1024) (s : List Nat) : (evsM fs (liveM fs s)).length ≤ fs.length := by
  rw [← revs_evs hf]
  unfold revsTo
  rw [List.length_map]
  exact Nat.le_trans (List.length_filter_le _ _) (Nat.le_of_eq List.length_range)
theorem join_nil {m : List Nat} (hm : AllW m) : joinN m [] = trim m := by
  unfold joinN
  refine trim_ext fun i => ?_
  rw [wordN_zip rfl]
  have : wordN [] i = 0 := wordN_out (by simp)
  rw [this, Nat.or_zero]
theorem there_trim (N : Nat) (m : List Nat) : trim (thereM N m) = thereM N m := of_trim _
end Go.Proofs.YtfkfpanhbanljaaGreat.Past

/- Layer 41 (past): the document's facts: what stands below, which puts out which, which are live. -/
namespace Go.Proofs.YtfkfpanhbanljaaGreat.Past
open Go.RowKit Go.Proofs.YtfkfpanhbanljaaGreat.Mem Go.Proofs.YtfkfpanhbanljaaGreat.Mask

set_option maxHeartbeats 2000000 in
theorem rbelow_any (A : Option Addr) (m : List Nat) (c n : Nat) (w : World) (hw : AllW m) (hr : Rd w w.heap.size A (WB m)) (hn : n ≤ 1024) :
    Calls Tryz.prog 23 #[.slice A m.length c, .int .i64 (n : Int)] w (GivesW w (belowM m n)) := by
  have HR := kept hr
  have HW := kept hw
  clear hr hw
  go_enter Tryz.func23, Tryz.ntmps23
  go_wp2_with fail
  go_loopw [5, 6] (fun v iv wr => ∃ (i : Nat) (D : Option Addr) (cc : Nat) (r : List Nat), i ≤ n ∧ iv = .int .i64 (i : Int) ∧ v = .slice D r.length cc ∧ Kept (r = belowM m i) ∧ Kept (Own wr w.heap.size 33 (.slice D r.length cc) (WB r) ∧ r.length ≤ cc ∧ Below w.heap.size w wr)) (fun _ iv _ => n - (intOf iv).toNat)
  case atStart => exact ⟨0, none, 0, [], Nat.zero_le _, rfl, rfl, ⟨rfl⟩, ⟨Own.nilv _ _ _, Nat.le_refl _, Below.refl _ _⟩⟩
  case round =>
    obtain ⟨i, D, cc, r, hi, rfl, rfl, HRR, HO⟩ := hrel
    rename World => wr
    by_cases hlt : i < n
    · have hin : (i : Int) < (n : Int) := by omega
      have CH := kept (rhas_any A m.length c m (i : Int) wr rfl HW.out (HR.out.next HO.out.2.2) (by omega) (by omega))
      have hI : hasI m (i : Int) = hasN m i := by simp [hasI]
      rw [hI] at CH
      have HN := kept (below_next m i)
      rw [← HRR.out] at HN
      have hrall : AllW r := by rw [HRR.out]; exact of_all _
      have hrl : r.length ≤ 16 := by rw [HRR.out]; exact of_length _
      have CP := kept (rput_any D r.length cc r (i : Int) wr rfl hrall HO.out.1.rd HO.out.2.1 (by omega) (by omega) (by omega))
      clear hrall hI
      generalize hasN m i = hh at *
      go_wp2_with fail
      refine CH.out.mono ?_
      rintro e w1 ⟨rfl, rfl⟩
      clear CH
      cases hh with
      | true =>
        go_wp2_with fail
        refine CP.out.mono ?_
        rintro e w2 ⟨D2, c2, rfl, ho2, hc2, hb2⟩
        have HO2 : Kept (Own w2 w.heap.size 33 (.slice D2 (putI r (i : Int)).length c2) (WB (putI r (i : Int))) ∧ (putI r (i : Int)).length ≤ c2 ∧ Below w.heap.size w w2) := ⟨ho2.mono HO.out.2.2.size, hc2, bnx HO.out.2.2 hb2⟩
        have HE : Kept (putI r (i : Int) = belowM m (i + 1)) := ⟨by rw [HN.out]; simp⟩
        generalize putI r (i : Int) = r2 at *
        clear ho2 hc2 hb2 CP HN HRR
        go_wp2_with fail
        go_roundw
        case rel => exact ⟨i + 1, D2, c2, r2, by omega, by go_num, rfl, HE, HO2⟩
        case measure => simp [intOf]; omega
      | false =>
        have HE : Kept (r = belowM m (i + 1)) := ⟨by rw [HN.out]; simp⟩
        clear CP HN HRR
        go_wp2_with fail
        go_roundw
        case rel => exact ⟨i + 1, D, cc, r, by omega, by go_num, rfl, HE, HO⟩
        case measure => simp [intOf]; omega
    · obtain rfl : i = n := by omega
      obtain rfl := HRR.out
      go_wp2_with fail
      go_ret
      exact ⟨D, cc, rfl, HO.out⟩
/-- a fact of the document's: its event has no kills -/
def FactM.Rk (w : World) (f : FactM) : Prop := (f.e.kA = none ∧ f.e.kn = 0 ∧ f.e.kc = 0) ∧ Rd w w.heap.size f.A (WB f.m) ∧ AllW f.m ∧ f.m.length ≤ 16
def RdF (w : World) (X : Option Addr) (rs : List FactM) : Prop := factE.Rd w w.heap.size X rs ∧ ∀ f ∈ rs, f.Rk w
section
variable {w w' : World} {X : Option Addr} {rs : List FactM}
theorem FactM.Rk.next {f : FactM} (h : f.Rk w) (hb : Below w.heap.size w w') : f.Rk w' := ⟨h.1, h.2.1.next hb, h.2.2⟩
theorem RdF.next (h : RdF w X rs) (hb : Below w.heap.size w w') : RdF w' X rs := ⟨h.1.next hb, fun f hf => (h.2 f hf).next hb⟩
theorem RdF.spot (h : RdF w X rs) {i : Nat} {f : FactM} (hi : rs[i]? = some f) : ∃ b o, X = some ⟨b, o, none⟩ ∧ b < w.heap.size ∧
    (w.cell? ⟨b, o + i * 8, none⟩ = some (.int .u16 (f.e.dev : Int)) ∧ w.cell? ⟨b, o + i * 8 + 1, none⟩ = some (.int .u64 (f.e.n : Int)) ∧ w.cell? ⟨b, o + i * 8 + 2, none⟩ = some (.int .u8 (f.e.kind : Int)) ∧ w.cell? ⟨b, o + i * 8 + 3, none⟩ = some (.int .u64 (f.e.cid : Int)) ∧
      w.cell? ⟨b, o + i * 8 + 4, none⟩ = some (.int .u8 (f.e.field : Int)) ∧ w.cell? ⟨b, o + i * 8 + 5, none⟩ = some (.string f.e.text) ∧ w.cell? ⟨b, o + i * 8 + 6, none⟩ = some (.slice none 0 0) ∧ w.cell? ⟨b, o + i * 8 + 7, none⟩ = some (.slice f.A f.m.length f.c)) ∧ f.Rk w := by
  have hok := h.2 f (List.mem_of_getElem? hi)
  obtain ⟨b, o, hX, hb, hc⟩ := h.1.at_ hi
  obtain ⟨e, A, m, c2⟩ := f
  obtain ⟨dev, n, kind, cid, field, text, kA, kn, kc⟩ := e
  obtain ⟨⟨rfl, rfl, rfl⟩, ho⟩ := hok
  exact ⟨b, o, hX, hb, ⟨hc 0 _ rfl, hc 1 _ rfl, hc 2 _ rfl, hc 3 _ rfl, hc 4 _ rfl, hc 5 _ rfl, hc 6 _ rfl, hc 7 _ rfl⟩, ⟨rfl, rfl, rfl⟩, ho⟩
end
set_option maxRecDepth 100000 in
set_option maxHeartbeats 4000000 in
theorem routs_any (X : Option Addr) (rs : List FactM) (c : Nat) (n k : Int) (w : World) (h : RdF w X rs) (hn : -9223372036854775808 ≤ n ∧ n ≤ 9223372036854775807) (hk : -9223372036854775808 ≤ k ∧ k ≤ 9223372036854775807) :
    Calls Tryz.prog 15 #[.slice X rs.length c, .int .i64 n, .int .i64 k] w fun e w' => e = .returned (.bool (outsM rs n k)) ∧ Below w.heap.size w w' := by
  unfold outsM
  by_cases hn0 : n < 0
  · rw [if_neg (fun hh => by omega)]
    clear h
    have d1 : decide (n < 0) = true := decide_eq_true hn0
    go_enter Tryz.func15, Tryz.ntmps15
    go_upto_region 1 with fail
    simp only [List.append_eq, List.cons_append, List.nil_append]
    go_big_quiet (fail)
    go_wp2_with fail
    go_ret
    exact ⟨rfl, below_draw _ _ _⟩
  by_cases hn1 : (rs.length : Int) ≤ n
  · rw [if_neg (fun hh => by omega)]
    clear h
    have d1 : decide (n < 0) = false := decide_eq_false hn0
    have d2 : decide ((rs.length : Int) ≤ n) = true := decide_eq_true hn1
    go_enter Tryz.func15, Tryz.ntmps15
    go_upto_region 1 with fail
    simp only [List.append_eq, List.cons_append, List.nil_append]
    go_big_quiet (fail)
    go_wp2_with fail
    go_ret
    exact ⟨rfl, below_draw _ _ _⟩
  by_cases hk0 : k < 0
  · rw [if_neg (fun hh => by omega)]
    clear h
    have d1 : decide (n < 0) = false := decide_eq_false hn0
    have d2 : decide ((rs.length : Int) ≤ n) = false := decide_eq_false hn1
    have d3 : decide (k < 0) = true := decide_eq_true hk0
    go_enter Tryz.func15, Tryz.ntmps15
    go_upto_region 1 with fail
    simp only [List.append_eq, List.cons_append, List.nil_append]
    go_big_quiet (fail)
    go_wp2_with fail
    go_ret
    exact ⟨rfl, below_draw _ _ _⟩
  by_cases hk1 : (rs.length : Int) ≤ k
  · rw [if_neg (fun hh => by omega)]
    clear h
    have d1 : decide (n < 0) = false := decide_eq_false hn0
    have d2 : decide ((rs.length : Int) ≤ n) = false := decide_eq_false hn1
    have d3 : decide (k < 0) = false := decide_eq_false hk0
    have d4 : decide ((rs.length : Int) ≤ k) = true := decide_eq_true hk1
    go_enter Tryz.func15, Tryz.ntmps15
    go_upto_region 1 with fail
    simp only [List.append_eq, List.cons_append, List.nil_append]
    go_big_quiet (fail)
    go_wp2_with fail
    go_ret
    exact ⟨rfl, below_draw _ _ _⟩
  rw [if_pos ⟨⟨by omega, by omega⟩, by omega, by omega⟩]
  obtain ⟨i, rfl⟩ : ∃ i : Nat, n = (i : Int) := ⟨n.toNat, by omega⟩
  obtain ⟨j, rfl⟩ : ∃ j : Nat, k = (j : Int) := ⟨k.toNat, by omega⟩
  have hi : i < rs.length := by omega
  have hj : j < rs.length := by omega
  obtain ⟨a, ha⟩ : ∃ a, rs[i]? = some a := ⟨_, List.getElem?_eq_getElem hi⟩
  obtain ⟨b, hb⟩ : ∃ b, rs[j]? = some b := ⟨_, List.getElem?_eq_getElem hj⟩
  have ea : rs.getD (i : Int).toNat default = a := by simp [List.getD, ha]
  have eb : rs.getD (j : Int).toNat default = b := by simp [List.getD, hb]
  rw [ea, eb]
  obtain ⟨bl, o, rfl, hbl, ⟨a0, a1, a2, a3, a4, a5, a6, a7⟩, hak⟩ := h.spot ha
  obtain ⟨bl2, o2, hX, -, ⟨b0, b1, b2, b3, b4, b5, b6, b7⟩, hbk⟩ := h.spot hb
  injection hX with hX
  injection hX with h5 h6
  subst h5 h6
  have CH := kept (fun (W : World) (hb : Below w.heap.size w W) => rhas_any a.A _ a.c a.m (j : Int) W rfl hak.2.2.1 (hak.2.1.next hb) (by omega) (by omega))
  generalize hasI a.m (j : Int) = hh at *
  clear ha hb h hak hbk ea eb
  obtain ⟨⟨adev, an, akind, acid, afield, atext, akA, akn, akc⟩, aA, am, ac⟩ := a
  obtain ⟨⟨bdev, bn, bkind, bcid, bfield, btext, bkA, bkn, bkc⟩, bA, bm, bc⟩ := b
  dsimp only at *
  have hi2 : (i : Int) < (rs.length : Int) := by omega
  have hj2 : (j : Int) < (rs.length : Int) := by omega
  have hi3 : (0 : Int) ≤ (i : Int) := by omega
  have hj3 : (0 : Int) ≤ (j : Int) := by omega
  have d1 : decide ((i : Int) < 0) = false := decide_eq_false hn0
  have d2 : decide ((rs.length : Int) ≤ (i : Int)) = false := decide_eq_false hn1
  have d3 : decide ((j : Int) < 0) = false := decide_eq_false hk0
  have d4 : decide ((rs.length : Int) ≤ (j : Int)) = false := decide_eq_false hk1
  have d5 : decide (rs.length ≤ i) = false := decide_eq_false (by omega)
  have d6 : decide (rs.length ≤ j) = false := decide_eq_false (by omega)
  clear a0 a1 a5 a6 b0 b1 b5 b6 b7
  by_cases e1 : bkind = 1
  · subst e1
    by_cases e2 : acid = bcid
    · subst e2
      by_cases e3 : akind = 2
      · subst e3
        go_enter Tryz.func15, Tryz.ntmps15
        go_upto_region 1 with fail
        simp only [List.append_eq, List.cons_append, List.nil_append]
        go_big_quiet (fail)
        go_wp2_with fail
        refine (CH.out _ (below_draw _ w nq)).mono ?_
        rintro e w' ⟨rfl, rfl⟩
        go_wp2_with fail
        go_ret
        exact ⟨ret_bool (by simp), below_draw _ _ _⟩
      · have k3 : ((akind : Int) != 2) = true := by simp; omega
        by_cases e4 : afield = bfield
        · subst e4
          go_enter Tryz.func15, Tryz.ntmps15
          go_upto_region 1 with fail
          simp only [List.append_eq, List.cons_append, List.nil_append]
          go_big_quiet (fail)
          go_wp2_with fail
          refine (CH.out _ (below_draw _ w nq)).mono ?_
          rintro e w' ⟨rfl, rfl⟩
          go_wp2_with fail
          go_ret
          exact ⟨ret_bool (by simp), below_draw _ _ _⟩
        · have k4 : ((afield : Int) != (bfield : Int)) = true := by simp; omega
          go_enter Tryz.func15, Tryz.ntmps15
          go_upto_region 1 with fail
          simp only [List.append_eq, List.cons_append, List.nil_append]
          go_big_quiet (fail)
          go_wp2_with fail
          go_ret
          exact ⟨ret_bool (by simp [e3, e4]), below_draw _ _ _⟩
    · have k2 : ((acid : Int) != (bcid : Int)) = true := by simp; omega
      go_enter Tryz.func15, Tryz.ntmps15
      go_upto_region 1 with fail
      simp only [List.append_eq, List.cons_append, List.nil_append]
      go_big_quiet (fail)
      go_wp2_with fail
      go_ret
      exact ⟨ret_bool (by simp [e2]), below_draw _ _ _⟩
  · have k1 : ((bkind : Int) != 1) = true := by simp; omega
    go_enter Tryz.func15, Tryz.ntmps15
    go_upto_region 1 with fail
    simp only [List.append_eq, List.cons_append, List.nil_append]
    go_big_quiet (fail)
    go_wp2_with fail
    go_ret
    exact ⟨ret_bool (by simp [e1]), below_draw _ _ _⟩
end Go.Proofs.YtfkfpanhbanljaaGreat.Past

/- Layer 41 (past): the document's Live. -/
namespace Go.Proofs.YtfkfpanhbanljaaGreat.Past
open Go.RowKit Go.Proofs.YtfkfpanhbanljaaGreat.Mem Go.Proofs.YtfkfpanhbanljaaGreat.Mask

def anyTo (f : Nat → Bool) (q : Nat) : Bool := (List.range q).any f
theorem anyTo_succ (f : Nat → Bool) (q : Nat) : anyTo f (q + 1) = (anyTo f q || f q) := by
  unfold anyTo
  rw [List.range_succ, List.any_append]
  simp
theorem anyTo_mono {f : Nat → Bool} {q n : Nat} (h : q ≤ n) (ha : anyTo f q = true) : anyTo f n = true := by
  unfold anyTo at ha ⊢
  rw [List.any_eq_true] at ha ⊢
  obtain ⟨x, hx, h2⟩ := ha
  exact ⟨x, List.mem_range.2 (by have := List.mem_range.1 hx; omega), h2⟩
theorem keep_end {in0 b : Bool} {f : Nat → Bool} {q n : Nat} (h : q ≤ n) (hb : b = (in0 && !anyTo f q)) (he : b = false ∨ q = n) : b = (in0 && !anyTo f n) := by
  rcases he with rfl | rfl
  · cases in0 with
    | false => rfl
    | true =>
      have h1 : anyTo f q = true := by
        cases h2 : anyTo f q with
        | true => rfl
        | false => rw [h2] at hb; cases hb
      rw [anyTo_mono h h1]; rfl
  · exact hb
set_option maxRecDepth 100000 in
set_option maxHeartbeats 8000000 in
theorem rlive_any (X : Option Addr) (rs : List FactM) (c : Nat) (A : Option Addr) (m : List Nat) (cm : Nat) (w : World) (h : RdF w X rs) (hw : AllW m) (hr : Rd w w.heap.size A (WB m)) (hl : rs.length ≤ 25) :
    Calls Tryz.prog 17 #[.slice X rs.length c, .slice A m.length cm] w (GivesW w (rliveTo rs m rs.length)) := by
  have H := kept h
  have HR := kept hr
  have HW := kept hw
  have H0 : Kept (Own w w.heap.size 33 (.slice none 0 0) (WB []) ∧ ([] : List Nat).length ≤ 0 ∧ Below w.heap.size w w) := ⟨Own.nilv _ _ _, Nat.le_refl _, Below.refl _ _⟩
  clear h hr hw
  go_enter Tryz.func17, Tryz.ntmps17
  go_wp2_with fail
  go_loopw [5, 6] (fun v kv wr => ∃ (k : Nat) (D : Option Addr) (cc : Nat) (r : List Nat), k ≤ rs.length ∧ kv = .int .i64 (k : Int) ∧ v = .slice D r.length cc ∧ Kept (r = rliveTo rs m k) ∧ Kept (Own wr w.heap.size 33 (.slice D r.length cc) (WB r) ∧ r.length ≤ cc ∧ Below w.heap.size w wr)) (fun _ kv _ => rs.length - (intOf kv).toNat)
  case atStart => exact ⟨0, none, 0, [], Nat.zero_le _, rfl, rfl, ⟨rfl⟩, H0⟩
  case round =>
    clear H0
    obtain ⟨k, D, cc, r, hk, rfl, rfl, HRE, HO⟩ := hrel
    rename World => wr
    by_cases hlt : k < rs.length
    · obtain ⟨fk, hfk⟩ : ∃ f, rs[k]? = some f := ⟨_, List.getElem?_eq_getElem hlt⟩
      have HWR := kept (H.out.next HO.out.2.2)
      obtain ⟨b, o, rfl, hbb, ⟨a0, a1, a2, a3, a4, a5, a6, a7⟩, -⟩ := HWR.out.spot hfk
      have hkn : (k : Int) < (rs.length : Int) := by omega
      have hkn0 : (0 : Int) ≤ (k : Int) := by omega
      have CH := kept (rhas_any A m.length cm m (k : Int) wr rfl HW.out (HR.out.next HO.out.2.2) (by omega) (by omega))
      have hI : ∀ n : Nat, hasI m (n : Int) = hasN m n := fun n => by simp [hasI]
      rw [hI] at CH
      have HIN := kept (rlive_next rs m k)
      rw [← HRE.out] at HIN
      obtain ⟨F, HF0⟩ : ∃ F : Nat → Bool, Kept (F = fun n : Nat => outsM rs (n : Int) (k : Int) && hasN m n) := ⟨_, ⟨rfl⟩⟩
      have HF : Kept (∀ n : Nat, F n = (outsM rs (n : Int) (k : Int) && hasN m n)) := ⟨fun n => by rw [HF0.out]⟩
      have HKE : Kept (rkeepM rs m k = ((hasN m k && decide (fk.e.kind = 1)) && !anyTo F rs.length)) := ⟨by
        rw [HF0.out]
        unfold rkeepM anyTo
        have : rs.getD k default = fk := by simp [List.getD, hfk]
        rw [this]⟩
      have CO : Kept (∀ (W : World) (n : Nat), n < rs.length → Below w.heap.size w W → Calls Tryz.prog 15 #[.slice (some ⟨b, o, none⟩) rs.length c, .int .i64 (n : Int), .int .i64 (k : Int)] W fun e w' => e = .returned (.bool (outsM rs (n : Int) (k : Int))) ∧ Below W.heap.size W w') := ⟨fun W n hn hb => routs_any (some ⟨b, o, none⟩) rs c (n : Int) (k : Int) W (H.out.next hb) ⟨by omega, by omega⟩ ⟨by omega, by omega⟩⟩
      have CH2 : Kept (∀ (W : World) (n : Nat), n < rs.length → Below w.heap.size w W → Calls Tryz.prog 28 #[.slice A m.length cm, .int .i64 (n : Int)] W fun e w' => e = .returned (.bool (hasN m n)) ∧ W = w') := ⟨fun W n hn hb => by
        have := rhas_any A m.length cm m (n : Int) W rfl HW.out (HR.out.next hb) (by omega) (by omega)
        rwa [hI] at this⟩
      have hrl : r.length ≤ 16 := by rw [HRE.out]; exact of_length _
      have hra : AllW r := by rw [HRE.out]; exact of_all _
      have CP : Kept (∀ W : World, Below wr.heap.size wr W → Calls Tryz.prog 32 #[.slice D r.length cc, .int .i64 (k : Int)] W (GivesW W (putI r (k : Int)))) := ⟨fun W hb => rput_any D r.length cc r (k : Int) W rfl hra (HO.out.1.rd.next hb) HO.out.2.1 (by omega) (by omega) (by omega)⟩
      obtain ⟨⟨dev, ne, kind, cid, field, text, kA, kn, kc⟩, fA, fm, fc⟩ := fk
      dsimp only at a0 a1 a2 a3 a4 a5 a6 a7 HKE
      clear hfk a0 a1 a3 a4 a5 a6 a7 hI hra HRE HWR HF0
      go_upto_region 5 with fail
      go_cut [7] (fun v wx => v = .bool (hasN m k && decide (kind = 1)) ∧ wr = wx)
      case first =>
        go_wp2_with fail
        refine CH.out.mono ?_
        rintro e w1 ⟨rfl, rfl⟩
        clear CH HKE HIN CO CH2 CP
        generalize hasN m k = hh at *
        cases hh with
        | true =>
          by_cases hkd : kind = 1
          · subst hkd
            go_wp2_with fail
            go_meet
            exact ⟨by simp, rfl⟩
          · have hkb : ((kind : Int) == 1) = false := by simp; omega
            go_wp2_with fail
            go_meet
            exact ⟨by simp [hkd], rfl⟩
        | false =>
          go_wp2_with fail
          go_meet
          exact ⟨by simp, rfl⟩
      case rest =>
        obtain ⟨rfl, hwc⟩ := hcut
        subst hwc
        clear CH a2
        generalize (hasN m k && decide (kind = 1)) = in0 at *
        have HST : Kept (in0 = (in0 && !anyTo F 0)) := ⟨by simp [anyTo]⟩
        go_wp2_with fail
        go_loopw [7, 8] (fun bv jv wq => ∃ (q : Nat) (bo : Bool), q ≤ rs.length ∧ jv = .int .i64 (q : Int) ∧ bv = .bool bo ∧ Kept (bo = (in0 && !anyTo F q)) ∧ Kept (Below wr.heap.size wr wq)) (fun _ jv _ => rs.length - (intOf jv).toNat)
        case atStart => exact ⟨0, in0, Nat.zero_le _, rfl, rfl, HST, ⟨Below.refl _ _⟩⟩
        case round =>
          clear HST
          obtain ⟨q, bo, hq, rfl, rfl, HBQ, HBB⟩ := hrel
          rename World => wq
          have HBW := kept (bnx HO.out.2.2 HBB.out)
          cases bo with
          | true =>
            by_cases hql : q < rs.length
            · have hqn : (q : Int) < (rs.length : Int) := by omega
              have CO1 := kept (CO.out wq q hql HBW.out)
              have HFq := kept (HF.out q)
              have HSU := kept (anyTo_succ F q)
              have HCH := kept (fun W hb => CH2.out W q hql hb)
              generalize outsM rs (q : Int) (k : Int) = b1 at *
              generalize hasN m q = h1 at *
              go_wp2_with fail
              refine CO1.out.mono ?_
              rintro e w2 ⟨rfl, hb2⟩
              have HB2 := kept (bnx HBB.out hb2)
              have CH3 := kept (HCH.out w2 (bnx HBW.out hb2))
              clear CO1 hb2 HCH
              cases b1 with
              | true =>
                have HN : Kept ((!h1) = (in0 && !anyTo F (q + 1))) := ⟨by
                  have h2 := HBQ.out
                  rw [HSU.out, HFq.out, Bool.true_and]
                  cases in0 with
                  | false => cases h2
                  | true =>
                    cases h3 : anyTo F q with
                    | true => rw [h3] at h2; cases h2
                    | false => simp⟩
                clear HSU HFq HBQ
                go_wp2_with fail
                refine CH3.out.mono ?_
                rintro e w3 ⟨rfl, rfl⟩
                cases h1 with
                | true =>
                  go_wp2_with fail
                  go_roundw
                  case rel => exact ⟨q + 1, false, by omega, by go_num, rfl, HN, HB2⟩
                  case measure => simp [intOf]; omega
                | false =>
                  go_wp2_with fail
                  go_roundw
                  case rel => exact ⟨q + 1, true, by omega, by go_num, rfl, HN, HB2⟩
                  case measure => simp [intOf]; omega
              | false =>
                have HN : Kept (true = (in0 && !anyTo F (q + 1))) := ⟨by rw [HSU.out, HFq.out, Bool.false_and, Bool.or_false]; exact HBQ.out⟩
                clear HSU HFq HBQ CH3
                go_wp2_with fail
                go_roundw
                case rel => exact ⟨q + 1, true, by omega, by go_num, rfl, HN, HB2⟩
                case measure => simp [intOf]; omega
            · have hqn : ¬ (q : Int) < (rs.length : Int) := by omega
              have HEN : Kept (rkeepM rs m k = true) := ⟨HKE.out.trans (keep_end hq HBQ.out (.inr (by omega))).symm⟩
              have HIE : Kept (putI r (k : Int) = rliveTo rs m (k + 1)) := ⟨by rw [HIN.out, HEN.out, if_pos rfl]⟩
              have CP2 := kept (CP.out wq HBB.out)
              clear HBQ HKE HIN HEN CO CH2 CP
              go_wp2_with fail
              refine CP2.out.mono ?_
              rintro e w4 ⟨D4, c4, rfl, ho4, hc4, hb4⟩
              have HO4 : Kept (Own w4 w.heap.size 33 (.slice D4 (putI r (k : Int)).length c4) (WB (putI r (k : Int))) ∧ (putI r (k : Int)).length ≤ c4 ∧ Below w.heap.size w w4) := ⟨ho4.mono HBW.out.size, hc4, bnx HBW.out hb4⟩
              clear ho4 hc4 hb4 CP2
              generalize putI r (k : Int) = r4 at *
              go_wp2_with fail
              go_roundw
              case rel => exact ⟨k + 1, D4, c4, r4, by omega, by go_num, rfl, HIE, HO4⟩
              case measure => simp [intOf]; omega
          | false =>
            have HEN : Kept (rkeepM rs m k = false) := ⟨HKE.out.trans (keep_end hq HBQ.out (.inl rfl)).symm⟩
            have HIE : Kept (r = rliveTo rs m (k + 1)) := ⟨by rw [HIN.out, HEN.out, if_neg Bool.false_ne_true]⟩
            have HO4 : Kept (Own wq w.heap.size 33 (.slice D r.length cc) (WB r) ∧ r.length ≤ cc ∧ Below w.heap.size w wq) := ⟨HO.out.1.next HBB.out, HO.out.2.1, HBW.out⟩
            clear HBQ HKE HIN HEN CO CH2 CP
            by_cases hql : q < rs.length
            · have hqn : (q : Int) < (rs.length : Int) := by omega
              go_wp2_with fail
              go_roundw
              case rel => exact ⟨k + 1, D, cc, r, by omega, by go_num, rfl, HIE, HO4⟩
              case measure => simp [intOf]; omega
            · have hqn : ¬ (q : Int) < (rs.length : Int) := by omega
              go_wp2_with fail
              go_roundw
              case rel => exact ⟨k + 1, D, cc, r, by omega, by go_num, rfl, HIE, HO4⟩
              case measure => simp [intOf]; omega
    · obtain rfl : k = rs.length := by omega
      obtain rfl := HRE.out
      go_wp2_with fail
      go_ret
      exact ⟨D, cc, rfl, HO.out⟩
end Go.Proofs.YtfkfpanhbanljaaGreat.Past
