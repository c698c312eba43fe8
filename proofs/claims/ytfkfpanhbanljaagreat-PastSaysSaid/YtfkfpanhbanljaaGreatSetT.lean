import Derived.Test.YtfkfpanhbanljaaGreatLaidS
import Derived.Sort.Walk0
import Derived.Test.YtfkfpanhbanljaaGreatMemK
import Derived.Test.YtfkfpanhbanljaaGreatSetR
import Derived.Deep.RegionHeld3
import Derived.Deep.RegionWith
import Derived.Deep.DeepCutAuto
/- Plain mathematics of layer 14 (reg): texts in order, each once; who wins. No program in sight. -/
namespace Go.Proofs.YtfkfpanhbanljaaGreat.Reg
open Go.Lib Go.Sort Go.Proofs.YtfkfpanhbanljaaGreat.Card Go.Proofs.YtfkfpanhbanljaaGreat.LaidS

theorem lt_tot {x y : List UInt8} (h : ¬ x < y) (h2 : ¬ y < x) : x = y := List.le_antisymm (List.not_lt.1 h2) (List.not_lt.1 h)
theorem tb_inj {a b : ByteArray} (h : tb a = tb b) : a = b := by rw [← ofb_tb a, h, ofb_tb]
/-- texts in order, each once -/
def IncT (l : List ByteArray) : Prop := l.Pairwise fun a b => tb a < tb b
theorem inc_ext : ∀ {a b : List ByteArray}, IncT a → IncT b → (∀ x, x ∈ a ↔ x ∈ b) → a = b
  | [], [], _, _, _ => rfl
  | [], y :: b, _, _, h => absurd ((h y).2 List.mem_cons_self) List.not_mem_nil
  | x :: a, [], _, _, h => absurd ((h x).1 List.mem_cons_self) List.not_mem_nil
  | x :: a, y :: b, ha, hb, h => by
    obtain ⟨h1, h2⟩ := List.pairwise_cons.1 ha
    obtain ⟨h3, h4⟩ := List.pairwise_cons.1 hb
    have e : x = y := by
      rcases List.mem_cons.1 ((h x).1 List.mem_cons_self) with e | e
      · exact e
      · rcases List.mem_cons.1 ((h y).2 List.mem_cons_self) with e2 | e2
        · exact e2.symm
        · exact absurd (List.lt_trans (h3 x e) (h1 y e2)) (List.lt_irrefl _)
    subst e
    rw [inc_ext h2 h4 fun z => ⟨fun hz => ?_, fun hz => ?_⟩]
    · rcases List.mem_cons.1 ((h z).1 (List.mem_cons_of_mem _ hz)) with e | e
      · subst e; exact absurd (h1 z hz) (List.lt_irrefl _)
      · exact e
    · rcases List.mem_cons.1 ((h z).2 (List.mem_cons_of_mem _ hz)) with e | e
      · subst e; exact absurd (h3 z hz) (List.lt_irrefl _)
      · exact e
/-- a text more, in its place -/
def putT (l : List ByteArray) (s : ByteArray) : List ByteArray := l.filter (fun x => Op.bytesLess x.toList s.toList) ++ s :: l.filter (fun x => Op.bytesLess s.toList x.toList)
theorem less_tb (a b : ByteArray) : Op.bytesLess a.toList b.toList = decide (tb a < tb b) := by rw [bytesLess_eq, ByteArray.toList_eq, ByteArray.toList_eq]; rfl
theorem put_inc {l : List ByteArray} (h : IncT l) (s : ByteArray) : IncT (putT l s) := by
  unfold putT IncT
  refine List.pairwise_append.2 ⟨List.Pairwise.sublist List.filter_sublist h, List.pairwise_cons.2 ⟨fun x hx => ?_, List.Pairwise.sublist List.filter_sublist h⟩, fun a ha b hb => ?_⟩
  · have := (List.mem_filter.1 hx).2
    rw [less_tb] at this
    exact of_decide_eq_true this
  · have h1 := (List.mem_filter.1 ha).2
    rw [less_tb] at h1
    have h1 := of_decide_eq_true h1
    rcases List.mem_cons.1 hb with rfl | hb
    · exact h1
    · have h2 := (List.mem_filter.1 hb).2
      rw [less_tb] at h2
      exact List.lt_trans h1 (of_decide_eq_true h2)
theorem put_mem {l : List ByteArray} {s x : ByteArray} : x ∈ putT l s ↔ x ∈ l ∨ x = s := by
  unfold putT
  simp only [List.mem_append, List.mem_cons, List.mem_filter, less_tb, decide_eq_true_eq]
  constructor
  · rintro (h | h | h)
    · exact .inl h.1
    · exact .inr h
    · exact .inl h.1
  · rintro (h | h)
    · by_cases h1 : tb x < tb s
      · exact .inl ⟨h, h1⟩
      · by_cases h2 : tb s < tb x
        · exact .inr (.inr ⟨h, h2⟩)
        · exact .inr (.inl (tb_inj (lt_tot h1 h2)))
    · exact .inr (.inl h)
def putAll (l : List ByteArray) : List ByteArray := l.foldl putT []
theorem putAll_from (l : List ByteArray) : ∀ a : List ByteArray, IncT a → IncT (l.foldl putT a) ∧ ∀ x, x ∈ l.foldl putT a ↔ x ∈ a ∨ x ∈ l := by
  induction l with
  | nil => intro a h; exact ⟨h, fun x => by simp⟩
  | cons s l ih =>
    intro a h
    obtain ⟨h1, h2⟩ := ih (putT a s) (put_inc h s)
    refine ⟨h1, fun x => ?_⟩
    rw [List.foldl_cons, h2 x, put_mem, List.mem_cons]
    exact or_assoc
theorem putAll_inc (l : List ByteArray) : IncT (putAll l) := (putAll_from l [] List.Pairwise.nil).1
theorem putAll_mem {l : List ByteArray} {x : ByteArray} : x ∈ putAll l ↔ x ∈ l := by
  have := (putAll_from l [] List.Pairwise.nil).2 x
  rw [show (x ∈ putAll l) = (x ∈ l.foldl putT []) from rfl, this]
  simp
theorem comp_inv (d : Array (List UInt8)) (hs : ∀ i, i + 1 < d.size → d[i]! ≤ d[i + 1]!) : ∀ m, m ≤ d.size →
    (compactUpTo d m).Pairwise (· < ·) ∧ (∀ x, x ∈ compactUpTo d m ↔ ∃ j, j < m ∧ d[j]! = x) ∧ (∀ x ∈ compactUpTo d m, x ≤ d[m - 1]!)
  | 0, _ => by
    refine ⟨by simp [compactUpTo], fun x => ?_, fun x hx => by simp [compactUpTo] at hx⟩
    simp [compactUpTo]
  | m + 1, hm => by
    obtain ⟨h1, h2, h3⟩ := comp_inv d hs m (by omega)
    rw [compactUpTo_succ, Nat.add_sub_cancel]
    cases hk : keeps d m with
    | true =>
      rw [if_pos rfl]
      have hlt : ∀ x ∈ compactUpTo d m, x < d[m]! := fun x hx => by
        have h4 := h3 x hx
        obtain ⟨j, hj, _⟩ := (h2 x).1 hx
        unfold keeps at hk
        have hk := of_decide_eq_true hk
        have h5 : d[m]! ≠ d[m - 1]! := by rcases hk with e | e; omega; exact e
        have h6 := hs (m - 1) (by omega)
        rw [Nat.sub_add_cancel (by omega)] at h6
        by_cases h7 : x < d[m]!
        · exact h7
        · have h8 : d[m]! ≤ x := List.not_lt.1 h7
          have h9 : d[m]! ≤ d[m - 1]! := List.le_trans h8 h4
          exact absurd (List.le_antisymm h9 h6) h5
      refine ⟨List.pairwise_append.2 ⟨h1, List.pairwise_singleton _ _, fun a ha b hb => by rw [List.mem_singleton.1 hb]; exact hlt a ha⟩, fun x => ?_, fun x hx => ?_⟩
      · rw [List.mem_append, h2 x, List.mem_singleton]
        constructor
        · rintro (⟨j, hj, e⟩ | e)
          · exact ⟨j, by omega, e⟩
          · exact ⟨m, by omega, e.symm⟩
        · rintro ⟨j, hj, e⟩
          by_cases hjm : j = m
          · subst hjm; exact .inr e.symm
          · exact .inl ⟨j, by omega, e⟩
      · rcases List.mem_append.1 hx with h | h
        · exact List.not_lt.1 fun h9 => List.lt_irrefl _ (List.lt_trans h9 (hlt x h))
        · rw [List.mem_singleton.1 h]; exact List.le_refl _
    | false =>
      rw [if_neg (by decide), List.append_nil]
      unfold keeps at hk
      have hk := of_decide_eq_false hk
      have hm0 : m ≠ 0 := fun e => hk (.inl e)
      have he : d[m]! = d[m - 1]! := Decidable.not_not.1 fun e => hk (.inr e)
      refine ⟨h1, fun x => ?_, fun x hx => by rw [he]; exact h3 x hx⟩
      rw [h2 x]
      constructor
      · rintro ⟨j, hj, e⟩
        exact ⟨j, by omega, e⟩
      · rintro ⟨j, hj, e⟩
        by_cases hjm : j = m
        · subst hjm; exact ⟨j - 1, by omega, by rw [← he]; exact e⟩
        · exact ⟨j, by omega, e⟩
theorem comp_sorted (l : List (List UInt8)) (h : l.Pairwise (· ≤ ·)) : (Lib.compact l).Pairwise (· < ·) ∧ ∀ x, x ∈ Lib.compact l ↔ x ∈ l := by
  have hg : ∀ j, (hj : j < l.length) → l.toArray[j]! = l[j] := fun j hj => by simp [hj]
  obtain ⟨h1, h2, _⟩ := comp_inv l.toArray (fun i hi => by
    have hi' : i + 1 < l.length := by simpa using hi
    rw [hg i (by omega), hg (i + 1) hi']
    exact List.pairwise_iff_getElem.1 h i (i + 1) (by omega) hi' (by omega)) l.length (by simp)
  refine ⟨h1, fun x => ?_⟩
  rw [show Lib.compact l = compactUpTo l.toArray l.length from rfl, h2 x]
  constructor
  · rintro ⟨j, hj, e⟩
    rw [hg j hj] at e
    rw [← e]; exact List.getElem_mem hj
  · intro hx
    obtain ⟨j, hj, e⟩ := List.getElem_of_mem hx
    exact ⟨j, hj, by rw [hg j hj]; exact e⟩
/-- the program's texts -/
def textsT (l : List ByteArray) : List ByteArray := compT (sortT l)
theorem sort_bytes (l : List ByteArray) : (sortT l).map tb = (l.map tb).mergeSort fun x y => decide (x ≤ y) := by
  unfold sortT
  rw [List.map_map]
  conv => rhs; rw [← List.map_id ((l.map tb).mergeSort fun x y => decide (x ≤ y))]
  exact List.map_congr_left fun x _ => tb_ofb x
theorem le_tot (x y : List UInt8) : x ≤ y ∨ y ≤ x := by
  by_cases h : x < y
  · exact .inl (List.not_lt.1 fun h2 => List.lt_irrefl _ (List.lt_trans h h2))
  · exact .inr (List.not_lt.1 h)
theorem texts_spec (l : List ByteArray) : IncT (textsT l) ∧ ∀ x, x ∈ textsT l ↔ x ∈ l := by
  have hs : ((sortT l).map tb).Pairwise (· ≤ ·) := by
    rw [sort_bytes]
    refine List.Pairwise.imp (fun h => of_decide_eq_true h) (List.pairwise_mergeSort (le := fun x y : List UInt8 => decide (x ≤ y)) (fun a b c h1 h2 => ?_) (fun a b => ?_) _)
    · exact decide_eq_true (List.le_trans (of_decide_eq_true h1) (of_decide_eq_true h2))
    · rw [Bool.or_eq_true, decide_eq_true_eq, decide_eq_true_eq]; exact le_tot a b
  obtain ⟨h1, h2⟩ := comp_sorted _ hs
  constructor
  · unfold textsT compT IncT
    rw [List.pairwise_map]
    exact h1.imp fun h => by rw [tb_ofb, tb_ofb]; exact h
  · intro x
    unfold textsT compT
    rw [List.mem_map]
    constructor
    · rintro ⟨y, hy, rfl⟩
      have := (h2 y).1 hy
      rw [sort_bytes] at this
      have := (List.mergeSort_perm _ _).mem_iff.1 this
      obtain ⟨z, hz, rfl⟩ := List.mem_map.1 this
      rw [ofb_tb]; exact hz
    · intro hx
      refine ⟨tb x, (h2 _).2 ?_, ofb_tb x⟩
      rw [sort_bytes]
      exact (List.mergeSort_perm _ _).mem_iff.2 (List.mem_map_of_mem hx)
theorem texts_eq (l : List ByteArray) : textsT l = putAll l := inc_ext (texts_spec l).1 (putAll_inc l) fun x => ((texts_spec l).2 x).trans putAll_mem.symm
theorem put_length (l : List ByteArray) (s : ByteArray) : (putT l s).length ≤ 2 * l.length + 1 := by
  unfold putT
  have h1 := List.length_filter_le (fun x : ByteArray => Op.bytesLess x.toList s.toList) l
  have h2 := List.length_filter_le (fun x : ByteArray => Op.bytesLess s.toList x.toList) l
  rw [List.length_append, List.length_cons]
  omega
theorem inc_nodup {l : List ByteArray} (h : IncT l) : l.Nodup := h.imp fun hlt e => by rw [e] at hlt; exact List.lt_irrefl _ hlt
theorem texts_length (l : List ByteArray) : (textsT l).length ≤ l.length := by
  unfold textsT
  refine Nat.le_trans ?_ (Nat.le_of_eq (sortT_length l))
  unfold compT
  rw [List.length_map]
  exact Nat.le_trans (compact_le _) (Nat.le_of_eq (List.length_map ..))
/-! values -/
structure ValM where
  dev : Nat
  n : Nat
  t : ByteArray
instance : Inhabited ValM := ⟨⟨0, 0, ⟨#[]⟩⟩⟩
def ahead (a b : ValM) : Bool := decide (b.n < a.n) || (decide (a.n = b.n) && decide (b.dev < a.dev))
def winF (w : ValM) (l : List ValM) : ValM := l.foldl (fun w x => if ahead x w then x else w) w
def winM : List ValM → ValM
  | [] => default
  | w :: l => winF w l
def txt (l : List ValM) : List ByteArray := l.map ValM.t
/-- what stands beside the winner's text -/
def moreM (l : List ValM) : List ByteArray := (textsT (txt l)).filter fun s => !(s.toList == (winM l).t.toList)
theorem winF_mem (l : List ValM) : ∀ w, winF w l = w ∨ winF w l ∈ l := by
  induction l with
  | nil => intro w; exact .inl rfl
  | cons x l ih =>
    intro w
    unfold winF
    rw [List.foldl_cons]
    rcases ih (if ahead x w then x else w) with h | h
    · unfold winF at h
      rw [h]
      split
      · exact .inr List.mem_cons_self
      · exact .inl rfl
    · exact .inr (List.mem_cons_of_mem _ h)
theorem win_mem {l : List ValM} (h : l ≠ []) : winM l ∈ l := by
  cases l with
  | nil => exact absurd rfl h
  | cons w l =>
    rcases winF_mem l w with h | h
    · show winF w l ∈ _
      rw [h]; exact List.mem_cons_self
    · exact List.mem_cons_of_mem _ h
theorem ahead_iff {a b : ValM} : ahead a b = true ↔ b.n < a.n ∨ (a.n = b.n ∧ b.dev < a.dev) := by
  unfold ahead; simp
theorem winF_top (l : List ValM) : ∀ w, ahead w (winF w l) = false ∧ ∀ x ∈ l, ahead x (winF w l) = false := by
  have key : ∀ a b c : ValM, ahead a b = false → ahead b c = false → ahead a c = false := by
    intro a b c h1 h2
    rw [Bool.eq_false_iff] at h1 h2 ⊢
    rw [Ne, ahead_iff] at h1 h2 ⊢
    omega
  have irr : ∀ a : ValM, ahead a a = false := by intro a; rw [Bool.eq_false_iff, Ne, ahead_iff]; omega
  induction l with
  | nil => intro w; exact ⟨irr w, fun x hx => by cases hx⟩
  | cons x l ih =>
    intro w
    obtain ⟨h1, h2⟩ := ih (if ahead x w then x else w)
    have e : winF w (x :: l) = winF (if ahead x w then x else w) l := rfl
    rw [e]
    cases hx : ahead x w with
    | true =>
      rw [hx, if_pos rfl] at h1 h2
      rw [if_pos rfl]
      have hwx : ahead w x = false := by
        rw [Bool.eq_false_iff, Ne, ahead_iff]
        rw [ahead_iff] at hx
        omega
      exact ⟨key _ _ _ hwx h1, fun y hy => by rcases List.mem_cons.1 hy with rfl | hy; exact h1; exact h2 y hy⟩
    | false =>
      rw [hx, if_neg (by decide)] at h1 h2
      rw [if_neg (by decide)]
      exact ⟨h1, fun y hy => by rcases List.mem_cons.1 hy with rfl | hy; exact key _ _ _ hx h1; exact h2 y hy⟩
theorem win_top {l : List ValM} {x : ValM} (hx : x ∈ l) : ahead x (winM l) = false := by
  cases l with
  | nil => cases hx
  | cons w l =>
    obtain ⟨h1, h2⟩ := winF_top l w
    rcases List.mem_cons.1 hx with rfl | hx
    · exact h1
    · exact h2 x hx
/-- of values with unlike dots the winner hangs on no order -/
theorem win_same {l m : List ValM} (hn : l ≠ []) (hm : ∀ x, x ∈ m ↔ x ∈ l) (hd : ∀ x ∈ l, ∀ y ∈ l, x.dev = y.dev → x.n = y.n → x = y) : winM m = winM l := by
  have hm0 : m ≠ [] := by
    intro e
    subst e
    obtain ⟨x, hx⟩ := List.exists_mem_of_ne_nil l hn
    exact absurd ((hm x).2 hx) List.not_mem_nil
  have h1 := (hm _).1 (win_mem hm0)
  have h2 := win_mem hn
  have h3 := win_top h1
  have h4 := win_top ((hm _).2 h2)
  rw [Bool.eq_false_iff, Ne, ahead_iff] at h3 h4
  exact hd _ h1 _ h2 (by omega) (by omega)
theorem texts_same {l m : List ByteArray} (h : ∀ x, x ∈ m ↔ x ∈ l) : textsT m = textsT l := inc_ext (texts_spec m).1 (texts_spec l).1 fun x => by rw [(texts_spec m).2, (texts_spec l).2, h]
theorem more_same {l m : List ValM} (hn : l ≠ []) (hm : ∀ x, x ∈ m ↔ x ∈ l) (hd : ∀ x ∈ l, ∀ y ∈ l, x.dev = y.dev → x.n = y.n → x = y) : moreM m = moreM l := by
  unfold moreM
  rw [win_same hn hm hd, texts_same (l := txt l) (m := txt m)]
  intro s
  unfold txt
  simp only [List.mem_map, hm]
theorem filter_one {l : List ByteArray} (h : l.Nodup) {s : ByteArray} (hs : s ∈ l) : (l.filter fun x => !(x.toList == s.toList)).length + 1 = l.length := by
  induction l with
  | nil => cases hs
  | cons y l ih =>
    obtain ⟨h1, h2⟩ := List.nodup_cons.1 h
    have hb : ∀ x : ByteArray, (x.toList == s.toList) = decide (x = s) := fun x => str_beq x s
    by_cases e : y = s
    · subst e
      rw [List.filter_cons, hb, decide_eq_true rfl]
      have : l.filter (fun x => !(x.toList == y.toList)) = l := List.filter_eq_self.2 fun x hx => by
        rw [hb, decide_eq_false (fun e => h1 (by rw [← e]; exact hx))]; rfl
      simp [this]
    · rcases List.mem_cons.1 hs with rfl | hs
      · exact absurd rfl e
      · rw [List.filter_cons, hb, decide_eq_false e]
        have := ih h2 hs
        simp [this]
theorem more_length {l : List ValM} (hn : l ≠ []) : (moreM l).length + 1 = (textsT (txt l)).length := by
  unfold moreM
  refine filter_one (inc_nodup (texts_spec _).1) ?_
  rw [(texts_spec _).2]
  exact List.mem_map_of_mem (win_mem hn)
theorem more_inc (l : List ValM) : IncT (moreM l) := List.Pairwise.sublist List.filter_sublist (texts_spec _).1
theorem more_not {l : List ValM} {s : ByteArray} (h : s ∈ moreM l) : s ≠ (winM l).t := by
  have := (List.mem_filter.1 h).2
  rw [str_beq] at this
  simpa using this
end Go.Proofs.YtfkfpanhbanljaaGreat.Reg

/- Layer 14 (reg): how two values stand: the walks of cmp.Compare, cmp.Or, the program's comparison and the document's. -/
namespace Go.Proofs.YtfkfpanhbanljaaGreat.Reg
open Go.RowKit Go.Proofs.YtfkfpanhbanljaaGreat.Mem Go.Proofs.YtfkfpanhbanljaaGreat.Card Go.Proofs.YtfkfpanhbanljaaGreat.LaidS

def cmpI (a b : Nat) : Int := if a < b then -1 else if b < a then 1 else 0
theorem cmp64_any (a b : Nat) (w : World) : Calls Tryz.prog 91 #[.int .u64 (a : Int), .int .u64 (b : Int)] w fun e w' => e = .returned (.int .i64 (cmpI a b)) ∧ w = w' := by
  have hc : Kept (a < b → cmpI a b = -1) ∧ Kept (b < a → cmpI a b = 1) ∧ Kept (a = b → cmpI a b = 0) := by
    refine ⟨⟨fun h => ?_⟩, ⟨fun h => ?_⟩, ⟨fun h => ?_⟩⟩ <;> unfold cmpI
    · rw [if_pos h]
    · rw [if_neg (by omega), if_pos h]
    · rw [if_neg (by omega), if_neg (by omega)]
  obtain ⟨h1, h2, h3⟩ := hc
  have hcs : a < b ∨ b < a ∨ a = b := by omega
  rcases hcs with h | h | h
  · have H := kept (h1.out h)
    clear h1 h2 h3
    have hx : ¬ b < a := by omega
    go_enter Tryz.func91, Tryz.ntmps91
    go_wp2
    go_ret
    exact ⟨ret_num H.out.symm, rfl⟩
  · have H := kept (h2.out h)
    clear h1 h2 h3
    have hx : ¬ a < b := by omega
    go_enter Tryz.func91, Tryz.ntmps91
    go_wp2
    go_ret
    exact ⟨ret_num H.out.symm, rfl⟩
  · have H := kept (h3.out h)
    clear h1 h2 h3
    subst h
    go_enter Tryz.func91, Tryz.ntmps91
    go_wp2
    go_ret
    exact ⟨ret_num H.out.symm, rfl⟩
theorem cmp16_any (a b : Nat) (w : World) : Calls Tryz.prog 92 #[.int .u16 (a : Int), .int .u16 (b : Int)] w fun e w' => e = .returned (.int .i64 (cmpI a b)) ∧ w = w' := by
  have hc : Kept (a < b → cmpI a b = -1) ∧ Kept (b < a → cmpI a b = 1) ∧ Kept (a = b → cmpI a b = 0) := by
    refine ⟨⟨fun h => ?_⟩, ⟨fun h => ?_⟩, ⟨fun h => ?_⟩⟩ <;> unfold cmpI
    · rw [if_pos h]
    · rw [if_neg (by omega), if_pos h]
    · rw [if_neg (by omega), if_neg (by omega)]
  obtain ⟨h1, h2, h3⟩ := hc
  have hcs : a < b ∨ b < a ∨ a = b := by omega
  rcases hcs with h | h | h
  · have H := kept (h1.out h)
    clear h1 h2 h3
    have hx : ¬ b < a := by omega
    go_enter Tryz.func92, Tryz.ntmps92
    go_wp2
    go_ret
    exact ⟨ret_num H.out.symm, rfl⟩
  · have H := kept (h2.out h)
    clear h1 h2 h3
    have hx : ¬ a < b := by omega
    go_enter Tryz.func92, Tryz.ntmps92
    go_wp2
    go_ret
    exact ⟨ret_num H.out.symm, rfl⟩
  · have H := kept (h3.out h)
    clear h1 h2 h3
    subst h
    go_enter Tryz.func92, Tryz.ntmps92
    go_wp2
    go_ret
    exact ⟨ret_num H.out.symm, rfl⟩
def orI (a b : Int) : Int := if a ≠ 0 then a else b
theorem or_any (g c : Nat) (a b : Int) (w : World) (h0 : w.cell? ⟨g, 0, none⟩ = some (.int .i64 a)) (h1 : w.cell? ⟨g, 1, none⟩ = some (.int .i64 b)) (hg : g < w.heap.size) :
    Calls Tryz.prog 90 #[.slice (some ⟨g, 0, none⟩) 2 c] w fun e w' => e = .returned (.int .i64 (orI a b)) ∧ w = w' := by
  by_cases ha : a = 0
  · subst ha
    have H : Kept (orI 0 b = b) := ⟨rfl⟩
    go_enter Tryz.func90, Tryz.ntmps90
    go_wp2
    go_loop [8] (fun i => ∃ j : Nat, j ≤ 2 ∧ i = .int .i64 (j : Int) ∧ Kept (j = 2 → b = 0)) (fun i => 2 - (intOf i).toNat)
    case atStart => exact ⟨0, by omega, rfl, ⟨fun h => by cases h⟩⟩
    case round =>
      obtain ⟨j, hj, rfl, hin⟩ := hrel
      have hjc : j = 0 ∨ j = 1 ∨ j = 2 := by omega
      rcases hjc with rfl | rfl | rfl
      · go_wp2
        go_round
        case rel => exact ⟨1, by omega, rfl, ⟨fun h => by cases h⟩⟩
        case measure => simp [intOf]
      · by_cases hb : b = 0
        · subst hb
          go_wp2
          go_round
          case rel => exact ⟨2, by omega, rfl, ⟨by simp⟩⟩
          case measure => simp [intOf]
        · have hbb : (b != 0) = true := by simpa using hb
          go_wp2
          go_ret
          exact ⟨ret_num H.out.symm, rfl⟩
      · have hb := kept (hin.out rfl)
        clear hin
        go_wp2
        go_ret
        exact ⟨ret_num (by rw [H.out]; exact hb.out.symm), rfl⟩
  · have hab : (a != 0) = true := by simpa using ha
    have H : Kept (orI a b = a) := ⟨if_pos ha⟩
    clear ha
    go_enter Tryz.func90, Tryz.ntmps90
    go_wp2
    go_loop [8] (fun i => i = .int .i64 0) (fun i => 2 - (intOf i).toNat)
    case atStart => trivial
    case round =>
      subst hrel
      go_wp2
      go_ret
      exact ⟨ret_num H.out.symm, rfl⟩
/-- how the program compares two values -/
def cmpV (x y : ValM) : Int := orI (cmpI x.n y.n) (cmpI x.dev y.dev)
theorem cmpV_pos (x y : ValM) : decide (cmpV x y > 0) = ahead x y := by
  unfold cmpV orI cmpI
  rw [Bool.eq_iff_iff, decide_eq_true_eq, ahead_iff]
  by_cases h1 : x.n < y.n
  · rw [if_pos h1]; simp; omega
  · by_cases h2 : y.n < x.n
    · rw [if_neg h1, if_pos h2]; simp [h2]
    · rw [if_neg h1, if_neg h2]
      by_cases h3 : x.dev < y.dev
      · rw [if_pos h3]; simp; omega
      · by_cases h4 : y.dev < x.dev
        · rw [if_neg h3, if_pos h4]; simp; omega
        · rw [if_neg h3, if_neg h4]; simp; omega
def ValM.cells (x : ValM) : List Value := [.int .u16 (x.dev : Int), .int .u64 (x.n : Int), .string x.t]
def ValM.val (x : ValM) : Value := .agg #[.int .u16 (x.dev : Int), .int .u64 (x.n : Int), .string x.t]
theorem clov_any (x y : ValM) (w : World) : Calls Tryz.prog 89 #[x.val, y.val] w fun e w' => e = .returned (.int .i64 (cmpV x y)) ∧ Below w.heap.size w w' := by
  obtain ⟨xd, xn, xt⟩ := x
  obtain ⟨yd, yn, yt⟩ := y
  have HC : Kept (cmpV ⟨xd, xn, xt⟩ ⟨yd, yn, yt⟩ = orI (cmpI xn yn) (cmpI xd yd)) := ⟨rfl⟩
  have CA := kept (fun W => cmp64_any xn yn W)
  have CB := kept (fun W => cmp16_any xd yd W)
  have CO := kept (fun g c W h0 h1 hg => or_any g c (cmpI xn yn) (cmpI xd yd) W h0 h1 hg)
  generalize cmpI xn yn = p at *
  generalize cmpI xd yd = q at *
  have k1 := Blk.new w [.int .u16 (xd : Int), .int .u64 (xn : Int), .string xt] 99
  have hb1 := (Below.refl w.heap.size w).alloc (Nat.le_refl _) (.cells #[.int .u16 (xd : Int), .int .u64 (xn : Int), .string xt] 99)
  have k2 := Blk.new (w.alloc (.cells #[.int .u16 (xd : Int), .int .u64 (xn : Int), .string xt] 99)) [.int .u16 (yd : Int), .int .u64 (yn : Int), .string yt] 99
  have k3 := (Blk.newAt ((w.alloc (.cells #[.int .u16 (xd : Int), .int .u64 (xn : Int), .string xt] 99)).alloc (.cells #[.int .u16 (yd : Int), .int .u64 (yn : Int), .string yt] 99)) [.int .i64 p, .int .i64 q] 3 (g := w.heap.size + 1 + 1) (by simp)).drew
  have CO3 := kept (CO.out (w.heap.size + 1 + 1) 2 _ (k3.cell (j := 0) rfl) (k3.cell (j := 1) rfl) k3.lt)
  have HB3 := kept (((hb1.alloc (by simp) (.cells #[.int .u16 (yd : Int), .int .u64 (yn : Int), .string yt] 99)).alloc (by simp; omega) (.cells #[.int .i64 p, .int .i64 q] 3)).drew)
  clear k1 k2 k3 hb1 CO
  unfold ValM.val
  dsimp only
  go_enter Tryz.func89, Tryz.ntmps89
  go_upto_region 1 with fail
  go_region_held3 (fun W => W.cell? ⟨w.heap.size, 0, none⟩ = some (.int .u16 (xd : Int)) ∧ W.cell? ⟨w.heap.size, 1, none⟩ = some (.int .u64 (xn : Int)) ∧ W.cell? ⟨w.heap.size + 1, 0, none⟩ = some (.int .u16 (yd : Int)) ∧ W.cell? ⟨w.heap.size + 1, 1, none⟩ = some (.int .u64 (yn : Int))) (go_keep) (first
    | (go_at_call 91; ((with_reducible refine (CA.out _).mono ?_); rintro e x1 ⟨rfl, rfl⟩))
    | (go_at_call 92; ((with_reducible refine (CB.out _).mono ?_); rintro e x1 ⟨rfl, rfl⟩))
    | (go_at_call 90; ((with_reducible refine CO3.out.mono ?_); rintro e x1 ⟨rfl, rfl⟩)))
  go_wp2_with fail
  go_ret
  exact ⟨by rw [HC.out]; rfl, HB3.out⟩
end Go.Proofs.YtfkfpanhbanljaaGreat.Reg
