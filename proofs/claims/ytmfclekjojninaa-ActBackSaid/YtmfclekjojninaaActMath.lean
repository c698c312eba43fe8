/- Layer 37 (act), plain mathematics: what an act is written as, what is read, and that what was written is read. -/
import Derived.Test.YtmfclekjojninaaActRHas
import Derived.Test.YtmfclekjojninaaCardText
namespace Go.Proofs.Ytmfclekjojninaa.Act
open Go.RowKit Go.Proofs.Ytmfclekjojninaa.Mem Go.Proofs.Ytmfclekjojninaa.Card Go.Proofs.Ytmfclekjojninaa.Pack Go.Proofs.Ytmfclekjojninaa.Num Go.Proofs.Ytmfclekjojninaa.Shift

structure ActM where
  k : Nat
  who : Nat
  cid : Nat
  f : Nat
  t : ByteArray
  p : Int
  a : Int
  m : Nat
instance : Inhabited ActM := ⟨⟨0, 0, 0, 0, ⟨#[]⟩, 0, 0, 0⟩⟩
def ActM.cells (x : ActM) : List Value := [.int .u8 (x.k : Int), .int .u8 (x.who : Int), .int .u64 (x.cid : Int), .int .u8 (x.f : Int), .string x.t, .int .i64 x.p, .int .i64 x.a, .int .u32 (x.m : Int)]
def ActM.val (x : ActM) : Value := .agg #[.int .u8 (x.k : Int), .int .u8 (x.who : Int), .int .u64 (x.cid : Int), .int .u8 (x.f : Int), .string x.t, .int .i64 x.p, .int .i64 x.a, .int .u32 (x.m : Int)]
def actE : Elem ActM := ⟨ActM.cells, 8, by decide, fun _ => rfl, fun x u hu => by
  simp only [ActM.cells, List.mem_cons, List.not_mem_nil, or_false] at hu
  rcases hu with rfl | rfl | rfl | rfl | rfl | rfl | rfl | rfl <;> rfl⟩
def ActM.Ok (x : ActM) : Prop := x.k < 256 ∧ x.who < 256 ∧ x.cid < 18446744073709551616 ∧ x.f < 256 ∧ x.t.size ≤ 140737488351232 ∧ (-9223372036854775808 ≤ x.p ∧ x.p ≤ 9223372036854775807) ∧ (-9223372036854775808 ≤ x.a ∧ x.a ≤ 9223372036854775807) ∧ x.m < 4294967296
/-- may an act be? -/
def good (x : ActM) : Bool :=
  decide (1 ≤ x.k ∧ x.k ≤ 19) && (decide ((hasN x.k 1 = false → x.who = 0) ∧ (hasN x.k 2 = false → x.cid = 0) ∧ (hasN x.k 3 = false → x.f = 0) ∧ (hasN x.k 4 = false → x.t = ⟨#[]⟩) ∧ (hasN x.k 5 = false → x.p = 0) ∧ (hasN x.k 6 = false → x.a = 0) ∧ (hasN x.k 7 = false → x.m = 0)) &&
    (decide (x.who < 16 ∨ x.who = 255 ∧ 15 ≤ x.k) && (textOk x.t && decide (x.k ≠ 17 ∨ x.m ≤ 1))))

def opt (b : Bool) (l : List Nat) : List Nat := if b = true then l else []
/-- an act's bytes -/
def actB (x : ActM) : List Nat := x.k :: (opt (hasN x.k 1) [x.who] ++ (opt (hasN x.k 2) (numB x.cid) ++ (opt (hasN x.k 3) [x.f] ++ (opt (hasN x.k 4) (textB x.t) ++ (opt (hasN x.k 5) (numB (foldI x.p)) ++ (opt (hasN x.k 6) (numB (foldI x.a)) ++ opt (hasN x.k 7) (numB x.m)))))))
def actsB (l : List ActM) : List Nat := l.flatMap actB
def encB (l : List ActM) : List Nat := numB l.length ++ actsB l
/-- what acts are encoded as, or the error -/
def encM (l : List ActM) : List Nat × Nat := if 1024 < l.length then ([], 3) else if l.all good then (encB l, 0) else ([], 1)
/-! reading: a field that may not be there -/
def gByte (b : Bool) (r : RS) : Nat × RS := if b = true then (r.byteV, r.byteR) else (0, r)
def gNum (b : Bool) (r : RS) : Nat × RS := if b = true then (r.numV, r.numR) else (0, r)
def gText (b : Bool) (r : RS) : ByteArray × RS := if b = true then (strB (r.textV 60), r.textR 60) else (⟨#[]⟩, r)
def gInt (b : Bool) (r : RS) : Int × RS := if b = true then (unfoldN r.numV, r.numR) else (0, r)
def gUpto (b : Bool) (r : RS) : Nat × RS := if b = true then (r.uptoV 4294967295, r.uptoR 4294967295) else (0, r)
def getM (r : RS) : ActM × RS :=
  let k := r.byteV
  let s1 := gByte (hasN k 1) r.byteR
  let s2 := gNum (hasN k 2) s1.2
  let s3 := gByte (hasN k 3) s2.2
  let s4 := gText (hasN k 4) s3.2
  let s5 := gInt (hasN k 5) s4.2
  let s6 := gInt (hasN k 6) s5.2
  let s7 := gUpto (hasN k 7) s6.2
  let x : ActM := ⟨k, s1.1, s2.1, s3.1, s4.1, s5.1, s6.1, s7.1⟩
  (x, if good x = true then s7.2 else s7.2.fail 4)
def getsM : Nat → RS → List ActM × RS
  | 0, r => ([], r)
  | n + 1, r => if (getM r).2.bad = 0 then ((getM r).1 :: (getsM n (getM r).2).1, (getsM n (getM r).2).2) else ([(getM r).1], (getM r).2)
def decR (b : List Nat) : List ActM × RS :=
  if 1024 < RS.numV ⟨b, 0⟩ then ([], (RS.numR ⟨b, 0⟩).fail 3) else getsM (RS.numV ⟨b, 0⟩) (RS.numR ⟨b, 0⟩)
def decM (b : List Nat) : List ActM × Nat := if (decR b).2.endR.bad = 0 then ((decR b).1, 0) else ([], (decR b).2.endR.bad)

theorem opt_length (b : Bool) (l : List Nat) (n : Nat) (h : l.length ≤ n) : (opt b l).length ≤ n := by
  unfold opt; split
  · exact h
  · simp
theorem opt_all {b : Bool} {l : List Nat} (h : AllB l) : AllB (opt b l) := by
  unfold opt; split
  · exact h
  · exact fun x hx => by cases hx
theorem all_app' {a b : List Nat} (ha : AllB a) (hb : AllB b) : AllB (a ++ b) := fun x hx => (List.mem_append.1 hx).elim (ha x) (hb x)
theorem all_one {x : Nat} (h : x < 256) : AllB [x] := fun y hy => by rcases List.mem_singleton.1 hy with rfl; exact h
theorem textB_all (s : ByteArray) : AllB (textB s) := all_app' (numB_all _) (sB_all s)
theorem actB_all {x : ActM} (h : x.Ok) : AllB (actB x) := by
  obtain ⟨h1, h2, _, h4, _⟩ := h
  refine fun y hy => ?_
  rcases List.mem_cons.1 hy with rfl | hy
  · exact h1
  · exact all_app' (opt_all (all_one h2)) (all_app' (opt_all (numB_all _)) (all_app' (opt_all (all_one h4)) (all_app' (opt_all (textB_all _)) (all_app' (opt_all (numB_all _)) (all_app' (opt_all (numB_all _)) (opt_all (numB_all _))))))) y hy
theorem num9 (v : Nat) : (numB v).length ≤ 9 := by have := lenB_le v; have := numB_length v; omega
theorem text_len (s : ByteArray) : (textB s).length ≤ 9 + s.size := by unfold textB; rw [List.length_append, sB_length]; have := num9 s.size; omega
theorem actB_length (x : ActM) : (actB x).length ≤ 60 + x.t.size := by
  unfold actB
  have h1 := opt_length (hasN x.k 1) [x.who] 1 (by simp)
  have h2 := opt_length (hasN x.k 2) (numB x.cid) 9 (num9 _)
  have h3 := opt_length (hasN x.k 3) [x.f] 1 (by simp)
  have h4 := opt_length (hasN x.k 4) (textB x.t) (9 + x.t.size) (text_len _)
  have h5 := opt_length (hasN x.k 5) (numB (foldI x.p)) 9 (num9 _)
  have h6 := opt_length (hasN x.k 6) (numB (foldI x.a)) 9 (num9 _)
  have h7 := opt_length (hasN x.k 7) (numB x.m) 9 (num9 _)
  simp only [List.length_cons, List.length_append]
  omega
theorem good_text {x : ActM} (h : good x = true) : x.t.size ≤ 60 := by
  unfold good at h
  simp only [Bool.and_eq_true] at h
  have := h.2.2.2.1
  unfold textOk at this
  simp only [Bool.and_eq_true, decide_eq_true_eq] at this
  exact this.1
theorem good_parts {x : ActM} (h : good x = true) : (hasN x.k 1 = false → x.who = 0) ∧ (hasN x.k 2 = false → x.cid = 0) ∧ (hasN x.k 3 = false → x.f = 0) ∧ (hasN x.k 4 = false → x.t = ⟨#[]⟩) ∧ (hasN x.k 5 = false → x.p = 0) ∧ (hasN x.k 6 = false → x.a = 0) ∧ (hasN x.k 7 = false → x.m = 0) := by
  unfold good at h
  simp only [Bool.and_eq_true, decide_eq_true_eq] at h
  exact h.2.1
theorem actsB_snoc {l : List ActM} {j : Nat} {x : ActM} (h : l[j]? = some x) : actsB (l.take (j + 1)) = actsB (l.take j) ++ actB x := by
  obtain ⟨hk, rfl⟩ := List.getElem?_eq_some_iff.1 h
  unfold actsB
  rw [List.take_succ_eq_append_getElem hk, List.flatMap_append]; simp
theorem actsB_length {l : List ActM} (h : ∀ x ∈ l, good x = true) : (actsB l).length ≤ 120 * l.length := by
  unfold actsB
  induction l with
  | nil => simp
  | cons x l ih =>
    have h1 := actB_length x
    have h2 := good_text (h x List.mem_cons_self)
    have h3 := ih fun y hy => h y (List.mem_cons_of_mem _ hy)
    rw [List.flatMap_cons, List.length_append, List.length_cons]
    omega
theorem encB_all {l : List ActM} (h : ∀ x ∈ l, x.Ok) : AllB (encB l) := all_app' (numB_all _) (fun y hy => by
  obtain ⟨x, hx, hy⟩ := List.mem_flatMap.1 hy
  exact actB_all (h x hx) y hy)
theorem encB_length {l : List ActM} (h : ∀ x ∈ l, good x = true) : (encB l).length ≤ 9 + 120 * l.length := by
  unfold encB
  have := actsB_length h
  have := num9 l.length
  rw [List.length_append]; omega
/-! what was written is read -/
theorem gByte_back {b : Bool} {v : Nat} (h : b = false → v = 0) (rest : List Nat) : gByte b ⟨opt b [v] ++ rest, 0⟩ = (v, ⟨rest, 0⟩) := by
  unfold gByte opt
  cases b
  · simp [h rfl]
  · obtain ⟨h1, h2⟩ := byte_back v rest
    simp only [if_true, List.singleton_append, h1, h2]
theorem gNum_back {b : Bool} {v : Nat} (hv : v < 18446744073709551616) (h : b = false → v = 0) (rest : List Nat) : gNum b ⟨opt b (numB v) ++ rest, 0⟩ = (v, ⟨rest, 0⟩) := by
  unfold gNum opt
  cases b
  · simp [h rfl]
  · obtain ⟨h1, h2⟩ := num_back hv rest
    simp only [if_true, h1, h2]
theorem gInt_back {b : Bool} {v : Int} (hv : -9223372036854775808 ≤ v ∧ v ≤ 9223372036854775807) (h : b = false → v = 0) (rest : List Nat) : gInt b ⟨opt b (numB (foldI v)) ++ rest, 0⟩ = (v, ⟨rest, 0⟩) := by
  unfold gInt opt
  cases b
  · simp [h rfl]
  · obtain ⟨h1, h2⟩ := num_back (foldI_lt hv.1 hv.2) rest
    simp only [if_true, h1, h2, unfold_fold]
theorem gUpto_back {b : Bool} {v : Nat} (hv : v < 4294967296) (h : b = false → v = 0) (rest : List Nat) : gUpto b ⟨opt b (numB v) ++ rest, 0⟩ = (v, ⟨rest, 0⟩) := by
  unfold gUpto opt
  cases b
  · simp [h rfl]
  · obtain ⟨h1, h2⟩ := num_back (v := v) (by omega) rest
    simp only [if_true]
    unfold RS.uptoV RS.uptoR
    rw [h1, h2, if_neg (by omega), if_neg (by omega)]
theorem textV_up {s : ByteArray} (hs : s.size ≤ 60) (rest : List Nat) : RS.textV ⟨textB s ++ rest, 0⟩ 60 = sB s ∧ RS.textR ⟨textB s ++ rest, 0⟩ 60 = ⟨rest, 0⟩ := by
  unfold textB
  rw [List.append_assoc]
  obtain ⟨h1, h2⟩ := num_back (v := s.size) (by omega) (sB s ++ rest)
  have hb : RS.textB ⟨numB s.size ++ (sB s ++ rest), 0⟩ 60 = 0 := by
    unfold RS.textB
    rw [h1, h2]
    rw [if_neg (by simp), if_neg (by omega), if_neg (by simp [sB_length])]
  unfold RS.textV RS.textR
  rw [hb, h1, h2, if_pos rfl, if_pos rfl]
  have hl := sB_length s
  constructor
  · show (sB s ++ rest).take s.size = sB s
    rw [← hl, List.take_left]
  · show (⟨(sB s ++ rest).drop s.size, 0⟩ : RS) = _
    rw [← hl, List.drop_left]
theorem gText_back {b : Bool} {s : ByteArray} (hs : s.size ≤ 60) (h : b = false → s = ⟨#[]⟩) (rest : List Nat) : gText b ⟨opt b (textB s) ++ rest, 0⟩ = (s, ⟨rest, 0⟩) := by
  unfold gText opt
  cases b
  · simp [h rfl]
  · obtain ⟨h1, h2⟩ := textV_up hs rest
    simp only [if_true, h1, h2, strB_sB]
theorem get_back {x : ActM} (hx : x.Ok) (hg : good x = true) (rest : List Nat) : getM ⟨actB x ++ rest, 0⟩ = (x, ⟨rest, 0⟩) := by
  obtain ⟨g1, g2, g3, g4, g5, g6, g7⟩ := good_parts hg
  have ht := good_text hg
  obtain ⟨k, who, cid, f, t, p, a, m⟩ := x
  obtain ⟨x1, x2, x3, x4, x5, x6, x7, x8⟩ := hx
  dsimp only at *
  unfold getM
  have e : actB ⟨k, who, cid, f, t, p, a, m⟩ ++ rest = k :: (opt (hasN k 1) [who] ++ (opt (hasN k 2) (numB cid) ++ (opt (hasN k 3) [f] ++ (opt (hasN k 4) (textB t) ++ (opt (hasN k 5) (numB (foldI p)) ++ (opt (hasN k 6) (numB (foldI a)) ++ (opt (hasN k 7) (numB m) ++ rest))))))) := by
    simp only [actB, List.cons_append, List.append_assoc]
  rw [e]
  obtain ⟨h1, h2⟩ := byte_back k (opt (hasN k 1) [who] ++ (opt (hasN k 2) (numB cid) ++ (opt (hasN k 3) [f] ++ (opt (hasN k 4) (textB t) ++ (opt (hasN k 5) (numB (foldI p)) ++ (opt (hasN k 6) (numB (foldI a)) ++ (opt (hasN k 7) (numB m) ++ rest)))))))
  simp only [h1, h2, gByte_back g1, gNum_back x3 g2, gByte_back g3, gText_back ht g4, gInt_back x6 g5, gInt_back x7 g6, gUpto_back x8 g7, hg, if_true]
theorem gets_back : ∀ {l : List ActM}, (∀ x ∈ l, x.Ok ∧ good x = true) → ∀ rest, getsM l.length ⟨actsB l ++ rest, 0⟩ = (l, ⟨rest, 0⟩)
  | [], _, rest => by simp [getsM, actsB]
  | x :: l, h, rest => by
    obtain ⟨h1, h2⟩ := h x List.mem_cons_self
    have ih := gets_back (l := l) (fun y hy => h y (List.mem_cons_of_mem _ hy)) rest
    have e : actsB (x :: l) ++ rest = actB x ++ (actsB l ++ rest) := by simp [actsB]
    rw [e, List.length_cons]
    unfold getsM
    rw [get_back h1 h2, if_pos rfl, ih]
theorem dec_enc {l : List ActM} (h : ∀ x ∈ l, x.Ok ∧ good x = true) (hl : l.length ≤ 1024) : decM (encB l) = (l, 0) := by
  obtain ⟨h1, h2⟩ := num_back (v := l.length) (by omega) (actsB l)
  have hr : decR (encB l) = (l, ⟨[], 0⟩) := by
    unfold decR encB
    rw [h1, h2, if_neg (by omega)]
    have := gets_back h []
    rwa [List.append_nil] at this
  unfold decM
  rw [hr]
  rfl
/-! what is read was written so -/
theorem fail_bad {r : RS} {e : Nat} (he : e ≠ 0) : (r.fail e).bad ≠ 0 := by
  unfold RS.fail; split
  · exact he
  · rename_i h; exact fun h0 => h ⟨h0, he⟩
theorem num_fwd {r : RS} (h : r.Ok) (hb : r.numR.bad = 0) : r.bad = 0 ∧ r.l = numB r.numV ++ r.numR.l := by
  unfold RS.numR at hb ⊢
  unfold RS.numV
  by_cases h0 : r.bad = 0
  · rw [if_pos h0] at hb ⊢
    rw [if_pos h0]
    by_cases h1 : (readAt r.l 0).err = 0
    · rw [if_pos h1] at ⊢
      obtain ⟨_, _, _, h4⟩ := read_back h.1 h1
      refine ⟨h0, ?_⟩
      rw [h4, List.drop_zero, Nat.sub_zero]
      exact (List.take_append_drop _ _).symm
    · rw [if_neg h1] at hb
      exact absurd hb h1
  · rw [if_neg h0] at hb
    exact absurd hb h0
theorem byte_fwd {r : RS} (hb : r.byteR.bad = 0) : r.bad = 0 ∧ r.l = [r.byteV] ++ r.byteR.l := by
  unfold RS.byteR at hb ⊢
  unfold RS.byteV
  by_cases h0 : r.bad = 0
  · rw [if_pos h0] at hb ⊢
    rw [if_pos h0]
    by_cases h1 : r.l = []
    · rw [if_pos h1] at hb
      cases hb
    · rw [if_neg h1]
      refine ⟨h0, ?_⟩
      rcases hl : r.l with _ | ⟨x, t⟩
      · exact absurd hl h1
      · rfl
  · rw [if_neg h0] at hb
    exact absurd hb h0
theorem upto_fwd {r : RS} {M : Nat} (h : r.Ok) (hb : (r.uptoR M).bad = 0) : r.bad = 0 ∧ r.l = numB (r.uptoV M) ++ (r.uptoR M).l := by
  unfold RS.uptoR RS.uptoV at *
  by_cases h1 : M < r.numV
  · rw [if_pos h1] at hb
    exact absurd hb (fail_bad (by decide))
  · rw [if_neg h1] at hb ⊢
    rw [if_neg h1]
    exact num_fwd h hb
theorem text_fwd {r : RS} {M : Nat} (h : r.Ok) (hb : (r.textR M).bad = 0) : r.bad = 0 ∧ r.l = textB (strB (r.textV M)) ++ (r.textR M).l := by
  unfold RS.textR at hb ⊢
  unfold RS.textV
  by_cases h0 : r.textB M = 0
  · rw [if_pos h0]
    rw [if_pos h0]
    unfold RS.textB at h0
    have hnb : r.numR.bad = 0 := by
      by_cases h1 : r.numR.bad = 0
      · exact h1
      · rw [if_pos h1] at h0; exact absurd h0 h1
    rw [if_neg (by simpa using hnb)] at h0
    have hM : ¬ M < r.numV := fun h1 => by rw [if_pos h1] at h0; cases h0
    rw [if_neg hM] at h0
    have hL : ¬ r.numR.l.length < r.numV := fun h1 => by rw [if_pos h1] at h0; cases h0
    obtain ⟨f1, f2⟩ := num_fwd h hnb
    refine ⟨f1, ?_⟩
    have hall : AllB (r.numR.l.take r.numV) := fun x hx => h.num.1 x (List.mem_of_mem_take hx)
    have hlen : (r.numR.l.take r.numV).length = r.numV := by rw [List.length_take]; omega
    unfold textB
    have hsz : (strB (r.numR.l.take r.numV)).size = r.numV := by
      rw [← sB_length, sB_strB hall, hlen]
    rw [hsz, sB_strB hall, List.append_assoc, List.take_append_drop]
    exact f2
  · rw [if_neg h0] at hb
    exact absurd hb h0
theorem gByte_fwd {b : Bool} {r : RS} (hb : (gByte b r).2.bad = 0) : r.bad = 0 ∧ r.l = opt b [(gByte b r).1] ++ (gByte b r).2.l := by
  unfold gByte opt at *
  cases b
  · exact ⟨hb, by simp⟩
  · simp only [if_true] at hb ⊢
    exact byte_fwd hb
theorem gNum_fwd {b : Bool} {r : RS} (h : r.Ok) (hb : (gNum b r).2.bad = 0) : r.bad = 0 ∧ r.l = opt b (numB (gNum b r).1) ++ (gNum b r).2.l := by
  unfold gNum opt at *
  cases b
  · exact ⟨hb, by simp⟩
  · simp only [if_true] at hb ⊢
    exact num_fwd h hb
theorem gInt_fwd {b : Bool} {r : RS} (h : r.Ok) (hb : (gInt b r).2.bad = 0) : r.bad = 0 ∧ r.l = opt b (numB (foldI (gInt b r).1)) ++ (gInt b r).2.l := by
  unfold gInt opt at *
  cases b
  · exact ⟨hb, by simp⟩
  · simp only [if_true] at hb ⊢
    rw [fold_unfold]
    exact num_fwd h hb
theorem gText_fwd {b : Bool} {r : RS} (h : r.Ok) (hb : (gText b r).2.bad = 0) : r.bad = 0 ∧ r.l = opt b (textB (gText b r).1) ++ (gText b r).2.l := by
  unfold gText opt at *
  cases b
  · exact ⟨hb, by simp⟩
  · simp only [if_true] at hb ⊢
    exact text_fwd h hb
theorem gUpto_fwd {b : Bool} {r : RS} (h : r.Ok) (hb : (gUpto b r).2.bad = 0) : r.bad = 0 ∧ r.l = opt b (numB (gUpto b r).1) ++ (gUpto b r).2.l := by
  unfold gUpto opt at *
  cases b
  · exact ⟨hb, by simp⟩
  · simp only [if_true] at hb ⊢
    exact upto_fwd h hb
theorem gByte_ok {b : Bool} {r : RS} (h : r.Ok) : (gByte b r).2.Ok ∧ (gByte b r).1 < 256 := by
  unfold gByte; cases b
  · exact ⟨h, by simp⟩
  · exact ⟨h.byte, r.byteV_lt h⟩
theorem gNum_ok {b : Bool} {r : RS} (h : r.Ok) : (gNum b r).2.Ok ∧ (gNum b r).1 < 18446744073709551616 := by
  unfold gNum; cases b
  · exact ⟨h, by simp⟩
  · exact ⟨h.num, r.numV_lt h⟩
theorem gInt_ok {b : Bool} {r : RS} (h : r.Ok) : (gInt b r).2.Ok ∧ (-9223372036854775808 ≤ (gInt b r).1 ∧ (gInt b r).1 ≤ 9223372036854775807) := by
  unfold gInt; cases b
  · exact ⟨h, by simp⟩
  · exact ⟨h.num, unfoldN_bd (r.numV_lt h)⟩
theorem textV_len (r : RS) (M : Nat) : (r.textV M).length ≤ M := by
  unfold RS.textV
  split
  · rename_i h0
    unfold RS.textB at h0
    have hM : ¬ M < r.numV := fun h1 => by
      rw [if_pos h1] at h0
      split at h0
      · rename_i h2; exact h2 h0
      · cases h0
    rw [List.length_take]; omega
  · simp
theorem strB_size (l : List Nat) : (strB l).size = l.length := by
  show (l.map UInt8.ofNat).toArray.size = _
  simp
theorem gText_ok {b : Bool} {r : RS} (h : r.Ok) : (gText b r).2.Ok ∧ (gText b r).1.size ≤ 60 := by
  unfold gText; cases b
  · exact ⟨h, by show (#[] : Array UInt8).size ≤ 60; simp⟩
  · exact ⟨h.text 60, by show (strB (r.textV 60)).size ≤ 60; rw [strB_size]; exact textV_len r 60⟩
theorem gUpto_ok {b : Bool} {r : RS} (h : r.Ok) : (gUpto b r).2.Ok ∧ (gUpto b r).1 < 4294967296 := by
  unfold gUpto; cases b
  · exact ⟨h, by simp⟩
  · refine ⟨h.upto _, ?_⟩
    show r.uptoV 4294967295 < _
    unfold RS.uptoV
    split
    · decide
    · omega
theorem get_ok {r : RS} (h : r.Ok) : (getM r).1.Ok ∧ (getM r).1.t.size ≤ 60 ∧ (getM r).2.Ok := by
  unfold getM
  have s1 := gByte_ok (b := hasN r.byteV 1) h.byte
  have s2 := gNum_ok (b := hasN r.byteV 2) s1.1
  have s3 := gByte_ok (b := hasN r.byteV 3) s2.1
  have s4 := gText_ok (b := hasN r.byteV 4) s3.1
  have s5 := gInt_ok (b := hasN r.byteV 5) s4.1
  have s6 := gInt_ok (b := hasN r.byteV 6) s5.1
  have s7 := gUpto_ok (b := hasN r.byteV 7) s6.1
  refine ⟨⟨r.byteV_lt h, s1.2, s2.2, s3.2, Nat.le_trans s4.2 (by decide), s5.2, s6.2, s7.2⟩, s4.2, ?_⟩
  dsimp only
  split
  · exact s7.1
  · exact s7.1.fail (by decide)
theorem get_fwd {r : RS} (h : r.Ok) (hb : (getM r).2.bad = 0) : r.bad = 0 ∧ good (getM r).1 = true ∧ r.l = actB (getM r).1 ++ (getM r).2.l := by
  unfold getM at *
  dsimp only at *
  have s1 := gByte_ok (b := hasN r.byteV 1) h.byte
  have s2 := gNum_ok (b := hasN r.byteV 2) s1.1
  have s3 := gByte_ok (b := hasN r.byteV 3) s2.1
  have s4 := gText_ok (b := hasN r.byteV 4) s3.1
  have s5 := gInt_ok (b := hasN r.byteV 5) s4.1
  have s6 := gInt_ok (b := hasN r.byteV 6) s5.1
  split at hb
  · rename_i hg
    rw [if_pos hg]
    obtain ⟨b7, f7⟩ := gUpto_fwd s6.1 hb
    obtain ⟨b6, f6⟩ := gInt_fwd s5.1 b7
    obtain ⟨b5, f5⟩ := gInt_fwd s4.1 b6
    obtain ⟨b4, f4⟩ := gText_fwd s3.1 b5
    obtain ⟨b3, f3⟩ := gByte_fwd b4
    obtain ⟨b2, f2⟩ := gNum_fwd s1.1 b3
    obtain ⟨b1, f1⟩ := gByte_fwd b2
    obtain ⟨b0, f0⟩ := byte_fwd b1
    refine ⟨b0, hg, ?_⟩
    unfold actB
    dsimp only
    rw [f0, f1, f2, f3, f4, f5, f6, f7]
    simp only [List.cons_append, List.nil_append, List.append_assoc]
  · exact absurd hb (fail_bad (by decide))
theorem gets_fwd : ∀ (n : Nat) {r : RS}, r.Ok → (getsM n r).2.bad = 0 → r.bad = 0 ∧ (getsM n r).1.length = n ∧ (∀ x ∈ (getsM n r).1, x.Ok ∧ good x = true) ∧ r.l = actsB (getsM n r).1 ++ (getsM n r).2.l
  | 0, r, _, hb => ⟨hb, rfl, (fun x hx => by cases hx), by simp [getsM, actsB]⟩
  | n + 1, r, h, hb => by
    unfold getsM at hb ⊢
    by_cases h0 : (getM r).2.bad = 0
    · rw [if_pos h0] at hb ⊢
      dsimp only at hb ⊢
      obtain ⟨ok1, _, ok2⟩ := get_ok h
      obtain ⟨b0, g0, f0⟩ := get_fwd h h0
      obtain ⟨_, i2, i3, i4⟩ := gets_fwd n ok2 hb
      refine ⟨b0, by rw [List.length_cons, i2], fun x hx => ?_, ?_⟩
      · rcases List.mem_cons.1 hx with rfl | hx
        · exact ⟨ok1, g0⟩
        · exact i3 x hx
      · rw [f0, i4]
        simp [actsB]
    · rw [if_neg h0] at hb
      exact absurd hb h0
theorem gets_ok : ∀ (n : Nat) {r : RS}, r.Ok → (∀ x ∈ (getsM n r).1, x.Ok ∧ x.t.size ≤ 60) ∧ (getsM n r).2.Ok ∧ (getsM n r).1.length ≤ n
  | 0, r, h => ⟨(fun x hx => by cases hx), h, Nat.le_refl _⟩
  | n + 1, r, h => by
    unfold getsM
    obtain ⟨ok1, t1, ok2⟩ := get_ok h
    obtain ⟨i1, i2, i3⟩ := gets_ok n ok2
    split
    · exact ⟨fun x hx => by
        rcases List.mem_cons.1 hx with rfl | hx
        · exact ⟨ok1, t1⟩
        · exact i1 x hx, i2, by rw [List.length_cons]; omega⟩
    · exact ⟨fun x hx => by
        rcases List.mem_singleton.1 hx with rfl
        exact ⟨ok1, t1⟩, ok2, by simp⟩
theorem end_fwd {r : RS} (hb : r.endR.bad = 0) : r.bad = 0 ∧ r.l = [] := by
  unfold RS.endR at hb
  split at hb
  · exact absurd hb (fail_bad (by decide))
  · rename_i h
    exact ⟨hb, List.eq_nil_of_length_eq_zero (by omega)⟩
theorem enc_dec {b : List Nat} (hb : AllB b) (hl : b.length ≤ 140737488355328) (h : (decM b).2 = 0) : (decM b).1.length ≤ 1024 ∧ (∀ x ∈ (decM b).1, x.Ok ∧ good x = true) ∧ encB (decM b).1 = b := by
  unfold decM at h ⊢
  have h0 : (decR b).2.endR.bad = 0 := by
    by_cases h1 : (decR b).2.endR.bad = 0
    · exact h1
    · rw [if_neg h1] at h; exact h
  rw [if_pos h0]
  obtain ⟨e1, e2⟩ := end_fwd h0
  have ok := RS.new hb hl
  dsimp only
  unfold decR at e1 e2 ⊢
  split at e1
  · exact absurd e1 (fail_bad (by decide))
  · rename_i hn
    rw [if_neg hn] at e2 ⊢
    obtain ⟨i1, i2, i3, i4⟩ := gets_fwd _ ok.num e1
    obtain ⟨_, n2⟩ := num_fwd ok i1
    refine ⟨by rw [i2]; omega, i3, ?_⟩
    unfold encB
    have e := n2
    rw [i4, e2, List.append_nil] at e
    rw [i2]
    exact e.symm
theorem dec_ok {b : List Nat} (hb : AllB b) (hl : b.length ≤ 140737488355328) : (∀ x ∈ (decM b).1, x.Ok ∧ x.t.size ≤ 60) ∧ (decM b).1.length ≤ 1024 := by
  have ok := RS.new hb hl
  have h2 : (∀ x ∈ (decR b).1, x.Ok ∧ x.t.size ≤ 60) ∧ (decR b).1.length ≤ 1024 := by
    unfold decR
    split
    · exact ⟨(fun x hx => by cases hx), by simp⟩
    · obtain ⟨i1, _, i3⟩ := gets_ok (RS.numV ⟨b, 0⟩) ok.num
      exact ⟨i1, by omega⟩
  unfold decM
  split
  · exact h2
  · exact ⟨(fun x hx => by cases hx), by simp⟩
end Go.Proofs.Ytmfclekjojninaa.Act
