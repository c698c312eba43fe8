import Derived.Test.YtfkfpanhbanljaaGreatElemU
import Derived.Test.YtfkfpanhbanljaaGreatSetC
import Derived.Deep.RegionWith
/- Layer 41 (past): facts, and how a past lies in memory. -/
namespace Go.Proofs.YtfkfpanhbanljaaGreat.Past
open Go.RowKit Go.Proofs.YtfkfpanhbanljaaGreat.Mem Go.Proofs.YtfkfpanhbanljaaGreat.Mask

/-- an event -/
structure EvM where
  dev : Nat
  n : Nat
  kind : Nat
  cid : Nat
  field : Nat
  text : ByteArray
  kA : Option Addr
  kn : Nat
  kc : Nat
def EvM.cells (e : EvM) : List Value := [.int .u16 (e.dev : Int), .int .u64 (e.n : Int), .int .u8 (e.kind : Int), .int .u64 (e.cid : Int), .int .u8 (e.field : Int), .string e.text, .slice e.kA e.kn e.kc]
/-- a fact: an event, and what it saw -/
structure FactM where
  e : EvM
  A : Option Addr
  m : List Nat
  c : Nat
instance : Inhabited EvM := ⟨⟨0, 0, 0, 0, 0, ⟨#[]⟩, none, 0, 0⟩⟩
instance : Inhabited FactM := ⟨⟨default, none, [], 0⟩⟩
def FactM.cells (f : FactM) : List Value := [.int .u16 (f.e.dev : Int), .int .u64 (f.e.n : Int), .int .u8 (f.e.kind : Int), .int .u64 (f.e.cid : Int), .int .u8 (f.e.field : Int), .string f.e.text, .slice f.e.kA f.e.kn f.e.kc, .slice f.A f.m.length f.c]
def factE : Elem FactM := ⟨FactM.cells, 8, by decide, fun _ => rfl, fun x u hu => by
  simp only [FactM.cells, List.mem_cons, List.not_mem_nil, or_false] at hu
  rcases hu with rfl | rfl | rfl | rfl | rfl | rfl | rfl | rfl <;> rfl⟩
theorem fact_info : (Tryz.prog.info? 65).map (fun i => (i.zero, i.size, i.bytes)) = some (some (.agg #[.int .u16 0, .int .u64 0, .int .u8 0, .int .u64 0, .int .u8 0, .string ByteArray.empty, .slice none 0 0, .slice none 0 0]), 8, 104) := by kernel_rfl
/-- a fact that is kept: its event has no kills, what it saw is words of the past's own -/
def FactM.Ok (w : World) (f : FactM) : Prop := (f.e.kA = none ∧ f.e.kn = 0 ∧ f.e.kc = 0) ∧ Own w 0 33 (.slice f.A f.m.length f.c) (WB f.m) ∧ AllW f.m ∧ f.m.length ≤ 16
/-- a past on the ground S, its object in block g -/
def Pst (w : World) (S : Nat → Prop) (g : Nat) (fs : List FactM) : Prop :=
  S g ∧ (∀ k, S k → k < w.heap.size) ∧ fs.length ≤ 1024 ∧ (∀ f ∈ fs, f.Ok w) ∧ ∃ X c, Blk w g [.slice X fs.length c] 63 ∧ factE.Own w 0 65 (.slice X fs.length c) fs ∧ ∀ x, X = some x → S x.block ∧ x.block ≠ g
section
variable {w w' : World} {S T : Nat → Prop} {g : Nat} {fs : List FactM}
theorem FactM.Ok.next {f : FactM} (h : f.Ok w) (hb : Below w.heap.size w w') : f.Ok w' := ⟨h.1, h.2.1.next hb, h.2.2⟩
theorem Pst.next (h : Pst w S g fs) (hb : Below w.heap.size w w') : Pst w' S g fs := by
  obtain ⟨h1, h2, h3, h4, X, c, h5, h6, h7⟩ := h
  exact ⟨h1, fun k hk => Nat.lt_of_lt_of_le (h2 k hk) hb.size, h3, fun f hf => (h4 f hf).next hb, X, c, h5.next hb, h6.next hb, h7⟩
theorem Pst.drewN (h : Pst w S g fs) (q : Nat) : Pst (w.drewN q) S g fs := h
/-- what a past is asked for -/
def PLen (w : World) (p : Value) (N : Nat) : Prop := (p = .pointer none ∧ N = 0) ∨ ∃ g X c t, p = .pointer (some ⟨g, 0, none⟩) ∧ Blk w g [.slice X N c] t
theorem PLen.next {p : Value} {N : Nat} (h : PLen w p N) (hb : Below w.heap.size w w') : PLen w' p N := by
  rcases h with h | ⟨g, X, c, t, h1, h2⟩
  · exact .inl h
  · exact .inr ⟨g, X, c, t, h1, h2.next hb⟩
theorem Pst.len (h : Pst w S g fs) : PLen w (.pointer (some ⟨g, 0, none⟩)) fs.length := by
  obtain ⟨h1, h2, h3, h4, X, c, h5, h6, h7⟩ := h
  exact .inr ⟨g, X, c, _, rfl, h5⟩
/-- the cells of a fact -/
theorem Pst.spot (h : Pst w S g fs) {i : Nat} {f : FactM} (hi : fs[i]? = some f) : ∃ X c b o, X = some ⟨b, o, none⟩ ∧ w.cell? ⟨g, 0, none⟩ = some (.slice X fs.length c) ∧ b < w.heap.size ∧ g < w.heap.size ∧
    (w.cell? ⟨b, o + i * 8, none⟩ = some (.int .u16 (f.e.dev : Int)) ∧ w.cell? ⟨b, o + i * 8 + 1, none⟩ = some (.int .u64 (f.e.n : Int)) ∧ w.cell? ⟨b, o + i * 8 + 2, none⟩ = some (.int .u8 (f.e.kind : Int)) ∧ w.cell? ⟨b, o + i * 8 + 3, none⟩ = some (.int .u64 (f.e.cid : Int)) ∧
      w.cell? ⟨b, o + i * 8 + 4, none⟩ = some (.int .u8 (f.e.field : Int)) ∧ w.cell? ⟨b, o + i * 8 + 5, none⟩ = some (.string f.e.text) ∧ w.cell? ⟨b, o + i * 8 + 6, none⟩ = some (.slice none 0 0) ∧ w.cell? ⟨b, o + i * 8 + 7, none⟩ = some (.slice f.A f.m.length f.c)) ∧ f.Ok w := by
  obtain ⟨h1, h2, h3, h4, X, c, h5, h6, h7⟩ := h
  have hok := h4 f (List.mem_of_getElem? hi)
  obtain ⟨b, o, hX, hb, hc⟩ := h6.rd.at_ hi
  obtain ⟨e, A, m, c2⟩ := f
  obtain ⟨dev, n, kind, cid, field, text, kA, kn, kc⟩ := e
  obtain ⟨⟨rfl, rfl, rfl⟩, ho⟩ := hok
  exact ⟨X, c, b, o, hX, h5.cell rfl, hb, h5.lt, ⟨hc 0 _ rfl, hc 1 _ rfl, hc 2 _ rfl, hc 3 _ rfl, hc 4 _ rfl, hc 5 _ rfl, hc 6 _ rfl, hc 7 _ rfl⟩, ⟨rfl, rfl, rfl⟩, ho⟩
end
/-- the facts of a set that are there; which fact puts out another one; which are live -/
def thereM (N : Nat) (set : List Nat) : List Nat := ofI ((allI set).filter fun n => decide (n < (N : Int)))
def outsM (fs : List FactM) (n k : Int) : Bool :=
  if (0 ≤ n ∧ n < fs.length) ∧ (0 ≤ k ∧ k < fs.length) then
    hasI (fs.getD n.toNat default).m k && (decide ((fs.getD k.toNat default).e.kind = 1) && (decide ((fs.getD n.toNat default).e.cid = (fs.getD k.toNat default).e.cid) && (decide ((fs.getD n.toNat default).e.kind = 2) || decide ((fs.getD n.toNat default).e.field = (fs.getD k.toNat default).e.field))))
  else false
def deadM (fs : List FactM) (set : List Nat) (k : Int) : Bool := (allI set).any fun n => outsM fs n k
def keepM (fs : List FactM) (set : List Nat) (k : Int) : Bool := decide ((fs.getD k.toNat default).e.kind = 1) && !deadM fs set k
def liveM (fs : List FactM) (set : List Nat) : List Nat := ofI ((allI (thereM fs.length set)).filter fun k => keepM fs (thereM fs.length set) k)
end Go.Proofs.YtfkfpanhbanljaaGreat.Past

/- Plain mathematics of layer 41 (past): which facts are live. -/
namespace Go.Proofs.YtfkfpanhbanljaaGreat.Past
open Go.RowKit Go.Proofs.YtfkfpanhbanljaaGreat.Mem Go.Proofs.YtfkfpanhbanljaaGreat.Mask

theorem allI_range {m : List Nat} {x : Int} (h : x ∈ allI m) : 0 ≤ x ∧ x < 64 * m.length ∧ hasI m x = true := by
  unfold allI allTo at h
  obtain ⟨n, hn, rfl⟩ := List.mem_map.1 h
  obtain ⟨h1, h2⟩ := List.mem_filter.1 hn
  have := List.mem_range.1 h1
  exact ⟨by omega, by omega, by simp [hasI, h2]⟩
theorem mem_allI {m : List Nat} {x : Int} : x ∈ allI m ↔ 0 ≤ x ∧ hasI m x = true := by
  refine ⟨fun h => ⟨(allI_range h).1, (allI_range h).2.2⟩, fun ⟨h0, h⟩ => ?_⟩
  unfold allI allTo
  have hN : hasN m x.toNat = true := by simpa [hasI, h0] using h
  refine List.mem_map.2 ⟨x.toNat, List.mem_filter.2 ⟨List.mem_range.2 ?_, hN⟩, by omega⟩
  rcases Nat.lt_or_ge x.toNat (64 * m.length) with h1 | h1
  · exact h1
  · rw [hasN_out h1] at hN; cases hN
theorem hasN_one (n k : Nat) : hasN (oneN n) k = decide (k = n) := by
  unfold hasN
  rw [one_word]
  by_cases h : k / 64 = n / 64
  · rw [if_pos h, Nat.testBit_two_pow]
    have : n % 64 = k % 64 ↔ k = n := by omega
    simp [this]
  · rw [if_neg h]
    have : k ≠ n := fun e => h (by rw [e])
    simp [this]
theorem hasN_put (m : List Nat) (n : Int) (k : Nat) : hasN (putI m n) k = (hasN m k || decide (0 ≤ n ∧ n < 1024 ∧ (k : Int) = n)) := by
  unfold putI
  split
  · rename_i h
    rw [hasN_trim, decide_eq_false (by omega), Bool.or_false]
  · rename_i h
    rw [hasN_join, hasN_one]
    congr 1
    rw [Bool.eq_iff_iff, decide_eq_true_iff, decide_eq_true_iff]
    omega
theorem hasN_of_from (ns : List Int) (m : List Nat) (k : Nat) : hasN (ns.foldl putI m) k = (hasN m k || ns.any fun n => decide (0 ≤ n ∧ n < 1024 ∧ (k : Int) = n)) := by
  induction ns generalizing m with
  | nil => simp
  | cons n ns ih => rw [List.foldl_cons, ih, hasN_put, List.any_cons, Bool.or_assoc]
theorem hasI_of (ns : List Int) (x : Int) : hasI (ofI ns) x = true ↔ 0 ≤ x ∧ x < 1024 ∧ x ∈ ns := by
  unfold hasI ofI
  rw [hasN_of_from]
  have h0 : hasN [] x.toNat = false := hasN_out (by simp)
  rw [h0, Bool.false_or, Bool.and_eq_true, decide_eq_true_iff, List.any_eq_true]
  constructor
  · rintro ⟨h1, n, hn, h2⟩
    have h3 := of_decide_eq_true h2
    obtain rfl : x = n := by omega
    exact ⟨h1, h3.2.1, hn⟩
  · rintro ⟨h1, h2, h3⟩
    exact ⟨h1, x, h3, decide_eq_true ⟨h1, h2, by omega⟩⟩
theorem hasI_there (N : Nat) (m : List Nat) (x : Int) : hasI (thereM N m) x = true ↔ 0 ≤ x ∧ x < 1024 ∧ x < (N : Int) ∧ hasI m x = true := by
  unfold thereM
  rw [hasI_of, List.mem_filter, mem_allI, decide_eq_true_iff]
  constructor
  · rintro ⟨h1, h2, ⟨_, h3⟩, h4⟩; exact ⟨h1, h2, h4, h3⟩
  · rintro ⟨h1, h2, h3, h4⟩; exact ⟨h1, h2, ⟨h1, h4⟩, h3⟩
theorem there_lt {N : Nat} {m : List Nat} {x : Int} (h : x ∈ allI (thereM N m)) : 0 ≤ x ∧ x < (N : Int) ∧ hasI m x = true := by
  have h1 := (mem_allI.1 h).2
  rw [hasI_there] at h1
  exact ⟨h1.1, h1.2.2.1, h1.2.2.2⟩
theorem dead_iff {fs : List FactM} (hf : fs.length ≤ 1024) (s : List Nat) (k : Int) : deadM fs (thereM fs.length s) k = true ↔ ∃ n : Int, 0 ≤ n ∧ n < fs.length ∧ hasI s n = true ∧ outsM fs n k = true := by
  unfold deadM
  rw [List.any_eq_true]
  constructor
  · rintro ⟨n, hn, ho⟩
    obtain ⟨h1, h2, h3⟩ := there_lt hn
    exact ⟨n, h1, h2, h3, ho⟩
  · rintro ⟨n, h1, h2, h3, ho⟩
    exact ⟨n, mem_allI.2 ⟨h1, (hasI_there _ _ _).2 ⟨h1, by omega, h2, h3⟩⟩, ho⟩
theorem hasI_live {fs : List FactM} (hf : fs.length ≤ 1024) (s : List Nat) (k : Int) :
    hasI (liveM fs s) k = true ↔ 0 ≤ k ∧ k < fs.length ∧ hasI s k = true ∧ (fs.getD k.toNat default).e.kind = 1 ∧ ∀ n : Int, 0 ≤ n → n < fs.length → hasI s n = true → outsM fs n k = false := by
  unfold liveM
  rw [hasI_of, List.mem_filter, mem_allI, hasI_there]
  unfold keepM
  rw [Bool.and_eq_true, decide_eq_true_iff, Bool.not_eq_true']
  have hd := dead_iff hf s k
  constructor
  · rintro ⟨h1, h2, ⟨_, _, _, h3, h4⟩, h5, h6⟩
    refine ⟨h1, h3, h4, h5, fun n a b c => ?_⟩
    rw [← Bool.not_eq_true]
    intro ho
    rw [hd.2 ⟨n, a, b, c, ho⟩] at h6
    cases h6
  · rintro ⟨h1, h3, h4, h5, h6⟩
    refine ⟨h1, by omega, ⟨h1, h1, by omega, h3, h4⟩, h5, ?_⟩
    rw [← Bool.not_eq_true]
    intro hx
    obtain ⟨n, a, b, c, ho⟩ := hd.1 hx
    rw [h6 n a b c] at ho
    cases ho
theorem live_all (fs : List FactM) (s : List Nat) : AllW (liveM fs s) ∧ (liveM fs s).length ≤ 16 := ⟨of_all _, of_length _⟩
theorem put_trim (m : List Nat) (n : Int) : trim (putI m n) = putI m n := by
  unfold putI
  split
  · exact trim_trim m
  · exact trim_trim _
theorem of_trim (ns : List Int) : trim (ofI ns) = ofI ns := by
  unfold ofI
  suffices ∀ m, trim m = m → trim (ns.foldl putI m) = ns.foldl putI m from this [] rfl
  induction ns with
  | nil => exact fun m h => h
  | cons n ns ih => exact fun m _ => ih _ (put_trim m n)
/-- the live ones of the live ones are these -/
theorem live_live {fs : List FactM} (hf : fs.length ≤ 1024) (s : List Nat) : liveM fs (liveM fs s) = liveM fs s := by
  have h : ∀ n, hasN (liveM fs (liveM fs s)) n = hasN (liveM fs s) n := fun n => by
    have e : ∀ t, hasI (liveM fs t) (n : Int) = hasN (liveM fs t) n := fun t => by simp [hasI]
    rw [← e, ← e, Bool.eq_iff_iff, hasI_live hf]
    constructor
    · exact fun h => h.2.2.1
    · intro h
      have h1 := (hasI_live hf s n).1 h
      exact ⟨h1.1, h1.2.1, h, h1.2.2.2.1, fun m a b c => h1.2.2.2.2 m a b ((hasI_live hf s m).1 c).2.2.1⟩
  have h2 := set_ext (live_all fs (liveM fs s)).1 (live_all fs s).1 h
  unfold liveM at h2 ⊢
  rw [of_trim, of_trim] at h2
  exact h2
end Go.Proofs.YtfkfpanhbanljaaGreat.Past

/- Layer 41 (past): the calls that read. -/
namespace Go.Proofs.YtfkfpanhbanljaaGreat.Past
open Go.RowKit Go.Proofs.YtfkfpanhbanljaaGreat.Mem Go.Proofs.YtfkfpanhbanljaaGreat.Mask

theorem len_any (p : Value) (N : Nat) (w : World) (h : PLen w p N) : Calls Tryz.prog 9 #[p] w fun e w' => e = .returned (.int .i64 (N : Int)) ∧ w = w' := by
  rcases h with ⟨rfl, rfl⟩ | ⟨g, X, c, t, rfl, hk⟩
  · go_enter Tryz.func9, Tryz.ntmps9
    go_wp2
    go_ret
    exact ⟨rfl, rfl⟩
  · have h0 : w.cell? ⟨g, 0, none⟩ = some (.slice X N c) := hk.cell rfl
    have hlt := hk.lt
    go_enter Tryz.func9, Tryz.ntmps9
    go_wp2
    go_ret
    exact ⟨rfl, rfl⟩
theorem is_any (p : Value) (N : Nat) (n : Int) (w : World) (h : PLen w p N) : Calls Tryz.prog 24 #[p, .int .i64 n] w fun e w' => e = .returned (.bool (decide (0 ≤ n ∧ n < N))) ∧ w = w' := by
  have C := kept (len_any p N w h)
  by_cases h0 : 0 ≤ n
  · by_cases h1 : n < N
    · rw [decide_eq_true ⟨h0, h1⟩]
      go_enter Tryz.func24, Tryz.ntmps24
      go_wp2_with fail
      refine C.out.mono ?_
      rintro e w' ⟨rfl, rfl⟩
      go_wp2
      go_ret
      exact ⟨rfl, rfl⟩
    · rw [decide_eq_false (fun h => h1 h.2)]
      have hf : decide (n < (N : Int)) = false := decide_eq_false h1
      go_enter Tryz.func24, Tryz.ntmps24
      go_wp2_with fail
      refine C.out.mono ?_
      rintro e w' ⟨rfl, rfl⟩
      go_wp2
      go_ret
      first | exact ⟨rfl, rfl⟩ | exact ⟨congrArg (fun b => Ending.returned (.bool b)) hf, rfl⟩
  · rw [decide_eq_false (fun h => h0 h.1)]
    go_enter Tryz.func24, Tryz.ntmps24
    go_wp2
    go_ret
    exact ⟨rfl, rfl⟩
theorem filter_take {α : Type} (p : α → Bool) (l : List α) (k : Nat) {x : α} (hx : l[k]? = some x) : (l.take (k + 1)).filter p = (l.take k).filter p ++ (if p x = true then [x] else []) := by
  rw [List.take_add_one, hx]
  simp only [Option.toList_some, List.filter_append, List.filter_cons, List.filter_nil]
theorem there_any (p : Value) (N : Nat) (A : Option Addr) (n c : Nat) (m : List Nat) (w : World) (h : PLen w p N) (hn : n = m.length) (hw : AllW m) (hr : Rd w w.heap.size A (WB m)) (hsz : m.length ≤ 1000000) :
    Calls Tryz.prog 22 #[p, .slice A n c] w (GivesW w (thereM N m)) := by
  subst hn
  have CA := kept (all_any A m.length c m w rfl hw hr (by omega))
  have CL := kept (fun W (hb : Below w.heap.size w W) => len_any p N W (h.next hb))
  have hrg : ∀ x ∈ allI m, 0 ≤ x ∧ x < 64 * m.length := fun x hx => ⟨(allI_range hx).1, (allI_range hx).2.1⟩
  have hlen : (allI m).length ≤ 64 * m.length := by unfold allI; exact allTo_length _ _
  unfold thereM
  generalize allI m = l at *
  have HRG := kept hrg
  have hl64 : l.length ≤ 64000000 := by omega
  clear hr hrg hlen
  go_enter Tryz.func22, Tryz.ntmps22
  go_wp2_with fail
  refine CA.out.mono ?_
  rintro e w1 ⟨B1, c1, rfl, ho1, hc1, hb1⟩
  have HO1 := kept ho1
  have HB1 := kept hb1
  clear ho1 CA hb1
  go_wp2
  go_loopw [5, 11] (fun v i wr => ∃ (k : Nat) (D : Option Addr) (cc : Nat) (r : List Int), k ≤ l.length ∧ i = .int .i64 (k : Int) ∧ v = .slice D r.length cc ∧ Kept (r = (l.take k).filter fun n => decide (n < (N : Int))) ∧ Own wr w1.heap.size 3 (.slice D r.length cc) (IB r) ∧ Below w1.heap.size w1 wr) (fun _ i _ => l.length - (intOf i).toNat)
  case atStart => exact ⟨0, none, 0, [], Nat.zero_le _, rfl, rfl, ⟨rfl⟩, Own.nilv _ _ _, Below.refl _ _⟩
  case round =>
    obtain ⟨k, D, cc, r, hk, rfl, rfl, hr', hown, hb⟩ := hrel
    have hsw := hb.size
    by_cases hlt : k < l.length
    · obtain ⟨x, hx⟩ : ∃ x, l[k]? = some x := ⟨_, List.getElem?_eq_getElem hlt⟩
      obtain ⟨b, o, rfl, hbb, hcell⟩ := (HO1.out.rd.below hb).at_ (k := k) (u := .int .i64 x) (by simp [IB, hx])
      have hft := filter_take (fun n => decide (n < (N : Int))) l k hx
      rw [← hr'.out] at hft
      have hrl : r.length ≤ 64000000 := by
        have h1 : r.length ≤ (l.take k).length := by rw [hr'.out]; exact List.length_filter_le _ _
        rw [List.length_take] at h1
        omega
      have HFT := kept hft
      have HOW := kept hown
      have CL2 := kept (CL.out wr ((HB1.out).trans (hb.mono HB1.out.size)))
      have HB := kept hb
      have hkn : (k : Int) < (l.length : Int) := by omega
      clear hft hr' hown hb
      go_wp2_with fail
      refine CL2.out.mono ?_
      rintro e w2 ⟨rfl, rfl⟩
      by_cases hxN : x < (N : Int)
      · have hone : Rd (wr.alloc (.cells #[.int .i64 x] 3)) (wr.heap.size + 1) (some ⟨wr.heap.size, 0, none⟩) (IB [x]) := Rd.new wr [.int .i64 x] 3
        have hz : r.length + [x].length ≤ 17592186044416 := by simp; omega
        have hba : w1.heap.size ≤ (wr.alloc (.cells #[.int .i64 x] 3)).heap.size := by simp; omega
        have HOA := kept (HOW.out.alloc (.cells #[.int .i64 x] 3))
        have hb3 : Below w1.heap.size w1 (wr.alloc (.cells #[.int .i64 x] 3)) := HB.out.alloc hsw _
        go_wp2_with (at_builtin; refine wpl_appI rfl (.tmp 19) (.tmp 21) rfl w1.heap.size _ r rfl HOA.out _ _ _ _ [x] rfl rfl hone hz hba ?_; intro A2 c2 w2 r2 hr2 hown2 hg2 hb2; have HR2 := kept hr2.out; have HO2 := kept hown2; have HB2 := kept (hb3.trans hb2); clear hr2 hown2 hg2 hb2 hb3)
        go_roundw
        case rel => exact ⟨k + 1, A2, c2, r2, by omega, by go_num, rfl, ⟨by rw [HR2.out, HFT.out, if_pos (by simpa using hxN)]⟩, HO2.out, HB2.out⟩
        case measure => simp [intOf]; omega
      · go_wp2
        go_roundw
        case rel => exact ⟨k + 1, D, cc, r, by omega, by go_num, rfl, ⟨by rw [HFT.out, if_neg (by simpa using hxN), List.append_nil]⟩, HOW.out, HB.out⟩
        case measure => simp [intOf]; omega
    · have hz : r = l.filter fun n => decide (n < (N : Int)) := by rw [hr'.out, List.take_of_length_le (by omega)]
      have hall : AllI r := fun x hx => by
        rw [hz] at hx
        have := HRG.out x (List.mem_filter.1 hx).1
        omega
      have hrl : r.length ≤ 64000000 := by
        have h1 : r.length ≤ l.length := by rw [hz]; exact List.length_filter_le _ _
        omega
      have CO := kept (of_any D r.length cc r wr rfl hall hown.rd (by omega))
      rw [hz] at CO
      rw [← hz] at CO
      have HZ := kept hz
      have HB := kept (HB1.out.trans (hb.mono HB1.out.size))
      clear hz hr' hown hb
      go_wp2_with fail
      refine CO.out.mono ?_
      rintro e w3 ⟨A3, c3, rfl, ho3, hc3, hb3⟩
      have HO3 := kept (ho3.mono HB.out.size)
      have HB3 := kept (HB.out.trans (hb3.mono HB.out.size))
      clear ho3 hb3
      go_wp2
      go_ret
      rw [← HZ.out]
      exact ⟨A3, c3, rfl, HO3.out, hc3, HB3.out⟩
end Go.Proofs.YtfkfpanhbanljaaGreat.Past

/- Layer 41 (past): which fact puts out another one; a fact's event. -/
namespace Go.Proofs.YtfkfpanhbanljaaGreat.Past
open Go.RowKit Go.Proofs.YtfkfpanhbanljaaGreat.Mem Go.Proofs.YtfkfpanhbanljaaGreat.Mask

set_option maxHeartbeats 4000000 in
theorem outs_any (S : Nat → Prop) (g : Nat) (fs : List FactM) (n k : Int) (w : World) (h : Pst w S g fs) (hn : -9223372036854775808 ≤ n ∧ n ≤ 9223372036854775807) (hk : -9223372036854775808 ≤ k ∧ k ≤ 9223372036854775807) :
    Calls Tryz.prog 14 #[.pointer (some ⟨g, 0, none⟩), .int .i64 n, .int .i64 k] w fun e w' => e = .returned (.bool (outsM fs n k)) ∧ Below w.heap.size w w' := by
  have CN := kept (is_any _ fs.length n w h.len)
  have CK := kept (is_any _ fs.length k w h.len)
  unfold outsM
  by_cases h1 : 0 ≤ n ∧ n < (fs.length : Int)
  · by_cases h2 : 0 ≤ k ∧ k < (fs.length : Int)
    · rw [if_pos ⟨h1, h2⟩]
      rw [decide_eq_true h1] at CN
      rw [decide_eq_true h2] at CK
      obtain ⟨i, rfl⟩ : ∃ i : Nat, n = (i : Int) := ⟨n.toNat, by omega⟩
      obtain ⟨j, rfl⟩ : ∃ j : Nat, k = (j : Int) := ⟨k.toNat, by omega⟩
      have hi : i < fs.length := by omega
      have hj : j < fs.length := by omega
      obtain ⟨a, ha⟩ : ∃ a, fs[i]? = some a := ⟨_, List.getElem?_eq_getElem hi⟩
      obtain ⟨b, hb⟩ : ∃ b, fs[j]? = some b := ⟨_, List.getElem?_eq_getElem hj⟩
      have ea : fs.getD (i : Int).toNat default = a := by simp [List.getD, ha]
      have eb : fs.getD (j : Int).toNat default = b := by simp [List.getD, hb]
      rw [ea, eb]
      obtain ⟨X, c, bl, o, rfl, hg, hbl, hgl, ⟨a0, a1, a2, a3, a4, a5, a6, a7⟩, hak⟩ := h.spot ha
      obtain ⟨X2, c2, bl2, o2, rfl, hg2, -, -, ⟨b0, b1, b2, b3, b4, b5, b6, b7⟩, hbk⟩ := h.spot hb
      rw [hg] at hg2
      injection hg2 with hg2
      injection hg2 with hg2 hg3 hg4
      injection hg2 with hg2
      injection hg2 with hg5 hg6
      subst hg5 hg6 hg4
      have CH := kept (has_any a.A _ a.c a.m (j : Int) w rfl hak.2.2.1 hak.2.1.rd (by omega) (by omega))
      generalize hasI a.m (j : Int) = hh at *
      clear ha hb h hak hbk ea eb
      obtain ⟨⟨adev, an, akind, acid, afield, atext, akA, akn, akc⟩, aA, am, ac⟩ := a
      obtain ⟨⟨bdev, bn, bkind, bcid, bfield, btext, bkA, bkn, bkc⟩, bA, bm, bc⟩ := b
      dsimp only at *
      have hi2 : (i : Int) < (fs.length : Int) := by omega
      have hj2 : (j : Int) < (fs.length : Int) := by omega
      have hi3 : (0 : Int) ≤ (i : Int) := by omega
      have hj3 : (0 : Int) ≤ (j : Int) := by omega
      cases hh with
      | false =>
        go_enter Tryz.func14, Tryz.ntmps14
        go_wp2_with fail
        refine CN.out.mono ?_
        rintro e w' ⟨rfl, rfl⟩
        go_wp2_with fail
        refine CK.out.mono ?_
        rintro e w' ⟨rfl, rfl⟩
        go_wp2_with fail
        refine CH.out.mono ?_
        rintro e w' ⟨rfl, rfl⟩
        go_wp2
        go_ret
        exact ⟨rfl, Below.refl _ _⟩
      | true =>
        go_enter Tryz.func14, Tryz.ntmps14
        go_wp2_with fail
        refine CN.out.mono ?_
        rintro e w' ⟨rfl, rfl⟩
        go_wp2_with fail
        refine CK.out.mono ?_
        rintro e w' ⟨rfl, rfl⟩
        go_wp2_with fail
        refine CH.out.mono ?_
        rintro e w' ⟨rfl, rfl⟩
        go_wp2_with fail
        go_region
        go_wp2
        all_goals go_ret
        all_goals refine ⟨ret_bool ?_, (((Below.refl _ _).alloc (Nat.le_refl _) _).alloc (by simp) _).drew⟩
        all_goals clear CN CK CH a0 a1 a2 a3 a4 a5 a6 a7 b0 b1 b2 b3 b4 b5 b6 b7
        all_goals first | (symm; simp; omega) | (symm; rw [Bool.eq_iff_iff]; simp; omega)
    · rw [if_neg (fun h => h2 h.2)]
      rw [decide_eq_true h1] at CN
      rw [decide_eq_false h2] at CK
      go_enter Tryz.func14, Tryz.ntmps14
      go_wp2_with fail
      refine CN.out.mono ?_
      rintro e w' ⟨rfl, rfl⟩
      go_wp2_with fail
      refine CK.out.mono ?_
      rintro e w' ⟨rfl, rfl⟩
      go_wp2
      go_ret
      exact ⟨rfl, Below.refl _ _⟩
  · rw [if_neg (fun h => h1 h.1)]
    rw [decide_eq_false h1] at CN
    go_enter Tryz.func14, Tryz.ntmps14
    go_wp2_with fail
    refine CN.out.mono ?_
    rintro e w' ⟨rfl, rfl⟩
    go_wp2
    go_ret
    exact ⟨rfl, Below.refl _ _⟩
end Go.Proofs.YtfkfpanhbanljaaGreat.Past

/- Layer 41 (past): dead, Live. -/
namespace Go.Proofs.YtfkfpanhbanljaaGreat.Past
open Go.RowKit Go.Proofs.YtfkfpanhbanljaaGreat.Mem Go.Proofs.YtfkfpanhbanljaaGreat.Mask

theorem bnx {w w1 w2 : World} (h : Below w.heap.size w w1) (h2 : Below w1.heap.size w1 w2) : Below w.heap.size w w2 := h.trans (h2.mono h.size)
theorem allI_i64 {m : List Nat} (h : m.length ≤ 1000000) {x : Int} (hx : x ∈ allI m) : -9223372036854775808 ≤ x ∧ x ≤ 9223372036854775807 := by
  have := allI_range hx
  omega
theorem any_take {α : Type} (p : α → Bool) (l : List α) (k : Nat) {x : α} (hx : l[k]? = some x) (h : (l.take k).any p = false) : (l.take (k + 1)).any p = p x := by
  rw [List.take_add_one, hx]
  simp [List.any_append, h]
theorem dead_any (S : Nat → Prop) (g : Nat) (fs : List FactM) (k : Int) (A : Option Addr) (n c : Nat) (m : List Nat) (w : World) (h : Pst w S g fs) (hk : -9223372036854775808 ≤ k ∧ k ≤ 9223372036854775807) (hn : n = m.length) (hw : AllW m) (hr : Rd w w.heap.size A (WB m)) (hsz : m.length ≤ 1000000) :
    Calls Tryz.prog 30 #[.pointer (some ⟨g, 0, none⟩), .slice A n c, .int .i64 k] w fun e w' => e = .returned (.bool (deadM fs m k)) ∧ Below w.heap.size w w' := by
  subst hn
  have CA := kept (all_any A m.length c m w rfl hw hr (by omega))
  have CO := kept (fun W (hb : Below w.heap.size w W) x (hx : x ∈ allI m) => outs_any S g fs x k W (h.next hb) (allI_i64 hsz hx) hk)
  have hlen : (allI m).length ≤ 64 * m.length := by unfold allI; exact allTo_length _ _
  unfold deadM
  generalize allI m = l at *
  clear hr h
  go_enter Tryz.func30, Tryz.ntmps30
  go_wp2_with fail
  refine CA.out.mono ?_
  rintro e w1 ⟨B1, c1, rfl, ho1, hc1, hb1⟩
  have HO1 := kept ho1
  have HB1 := kept hb1
  clear ho1 CA hb1
  go_wp2
  go_loopw [12] (fun i wr => ∃ (j : Nat), j ≤ l.length ∧ i = .int .i64 (j : Int) ∧ Kept ((l.take j).any (fun n => outsM fs n k) = false) ∧ Below w1.heap.size w1 wr) (fun i _ => l.length - (intOf i).toNat)
  case atStart => exact ⟨0, Nat.zero_le _, rfl, ⟨rfl⟩, Below.refl _ _⟩
  case round =>
    obtain ⟨j, hj, rfl, hno, hb⟩ := hrel
    by_cases hlt : j < l.length
    · obtain ⟨x, hx⟩ : ∃ x, l[j]? = some x := ⟨_, List.getElem?_eq_getElem hlt⟩
      obtain ⟨b, o, rfl, hbb, hcell⟩ := (HO1.out.rd.below hb).at_ (k := j) (u := .int .i64 x) (by simp [IB, hx])
      have hat := any_take (fun n => outsM fs n k) l j hx hno.out
      have CO2 := kept (CO.out wr (bnx HB1.out hb) x (List.mem_of_getElem? hx))
      have hjn : (j : Int) < (l.length : Int) := by omega
      have HB := kept hb
      have HX := kept hx
      generalize hou : outsM fs x k = ou at *
      have HAT := kept hat
      have HOU := kept hou
      clear hat hno hb hx hou
      cases ou with
      | false =>
        go_wp2_with fail
        refine CO2.out.mono ?_
        rintro e w2 ⟨rfl, hb2⟩
        have HB2 := kept (bnx HB.out hb2)
        clear hb2
        go_wp2
        go_roundw
        case rel => exact ⟨j + 1, by omega, by go_num, HAT, HB2.out⟩
        case measure => simp [intOf]; omega
      | true =>
        have hres : l.any (fun n => outsM fs n k) = true := List.any_eq_true.2 ⟨x, List.mem_of_getElem? HX.out, HOU.out⟩
        have HRES := kept hres
        clear hres
        go_wp2_with fail
        refine CO2.out.mono ?_
        rintro e w2 ⟨rfl, hb2⟩
        have HB2 := kept (bnx HB1.out (bnx HB.out hb2))
        clear hb2
        go_wp2
        go_ret
        rw [HRES.out]
        exact ⟨rfl, HB2.out⟩
    · have hz : l.any (fun n => outsM fs n k) = false := by rw [← hno.out, List.take_of_length_le (by omega)]
      have HZ := kept hz
      have HB2 := kept (bnx HB1.out hb)
      clear hb hno hz
      go_wp2
      go_ret
      rw [HZ.out]
      exact ⟨rfl, HB2.out⟩
theorem there_all (N : Nat) (m : List Nat) : AllW (thereM N m) ∧ (thereM N m).length ≤ 16 := ⟨of_all _, of_length _⟩
set_option maxHeartbeats 4000000 in
theorem live_any (S : Nat → Prop) (g : Nat) (fs : List FactM) (A : Option Addr) (n c : Nat) (m : List Nat) (w : World) (h : Pst w S g fs) (hn : n = m.length) (hw : AllW m) (hr : Rd w w.heap.size A (WB m)) (hsz : m.length ≤ 1000000) :
    Calls Tryz.prog 16 #[.pointer (some ⟨g, 0, none⟩), .slice A n c] w (GivesW w (liveM fs m)) := by
  have CT := kept (there_any _ fs.length A n c m w h.len hn hw hr hsz)
  obtain ⟨hta, htl⟩ := there_all fs.length m
  have hlt : ∀ x ∈ allI (thereM fs.length m), 0 ≤ x ∧ x < (fs.length : Int) := fun x hx => ⟨(there_lt hx).1, (there_lt hx).2.1⟩
  unfold liveM
  generalize thereM fs.length m = s at *
  have hal : (allI s).length ≤ 64 * s.length := by unfold allI; exact allTo_length _ _
  have H := kept h
  have HLT := kept hlt
  clear hr hlt h hn
  go_enter Tryz.func16, Tryz.ntmps16
  go_wp2_with fail
  refine CT.out.mono ?_
  rintro e w1 ⟨B1, c1, rfl, ho1, hc1, hb1⟩
  have HO1 := kept ho1
  have HB1 := kept hb1
  have CA := kept (all_any B1 s.length c1 s w1 rfl hta ho1.rd (by omega))
  clear ho1 CT hb1
  go_wp2_with fail
  refine CA.out.mono ?_
  rintro e w2 ⟨B2, c2, rfl, ho2, hc2, hb2⟩
  have HO2 := kept ho2
  have HB2 := kept hb2
  have CD := kept (fun W (hb : Below w2.heap.size w2 W) k (hk : -9223372036854775808 ≤ k ∧ k ≤ 9223372036854775807) => dead_any S g fs k B1 s.length c1 s W (H.out.next (bnx HB1.out (bnx hb2 hb))) hk rfl hta ((HO1.out.rd.next hb2).next hb) (by omega))
  generalize hl : allI s = l at *
  have HL := kept hl
  clear ho2 CA hb2 hl
  go_wp2
  go_loopw [5, 14] (fun v i wr => ∃ (k : Nat) (D : Option Addr) (cc : Nat) (r : List Int), k ≤ l.length ∧ i = .int .i64 (k : Int) ∧ v = .slice D r.length cc ∧ Kept (r = (l.take k).filter (keepM fs s)) ∧ Own wr w2.heap.size 3 (.slice D r.length cc) (IB r) ∧ Below w2.heap.size w2 wr) (fun _ i _ => l.length - (intOf i).toNat)
  case atStart => exact ⟨0, none, 0, [], Nat.zero_le _, rfl, rfl, ⟨rfl⟩, Own.nilv _ _ _, Below.refl _ _⟩
  case round =>
    obtain ⟨k, D, cc, r, hk, rfl, rfl, hr', hown, hb⟩ := hrel
    have hsw := hb.size
    by_cases hlt : k < l.length
    · obtain ⟨x, hx⟩ : ∃ x, l[k]? = some x := ⟨_, List.getElem?_eq_getElem hlt⟩
      obtain ⟨bb, oo, rfl, hbb, hcell⟩ := (HO2.out.rd.below hb).at_ (k := k) (u := .int .i64 x) (by simp [IB, hx])
      have hft := filter_take (keepM fs s) l k hx
      rw [← hr'.out] at hft
      have hrl : r.length ≤ 1024 := by
        have h1 : r.length ≤ (l.take k).length := by rw [hr'.out]; exact List.length_filter_le _ _
        rw [List.length_take] at h1
        omega
      obtain ⟨hx0, hx1⟩ := HLT.out x (List.mem_of_getElem? hx)
      obtain ⟨i, rfl⟩ : ∃ i : Nat, x = (i : Int) := ⟨x.toNat, by omega⟩
      obtain ⟨f, hf⟩ : ∃ f, fs[i]? = some f := ⟨_, List.getElem?_eq_getElem (by omega)⟩
      obtain ⟨X, c, bl, o, rfl, hg, hbl, hgl, ⟨-, -, a2, -⟩, -⟩ := (H.out.next (bnx HB1.out (bnx HB2.out hb))).spot hf
      have CD2 := kept (CD.out wr hb (i : Int) (by have := H.out.2.2.1; omega))
      have hkm : keepM fs s (i : Int) = (decide (f.e.kind = 1) && !deadM fs s (i : Int)) := by simp [keepM, List.getD, hf]
      rw [hkm] at hft
      have hkn : (k : Int) < (l.length : Int) := by omega
      have HOW := kept hown
      have HB := kept hb
      generalize deadM fs s (i : Int) = dd at *
      generalize f.e.kind = kd at *
      have HFT := kept hft
      clear hft hr' hown hb hkm hx hf
      by_cases hkd : kd = 1
      · subst hkd
        cases dd with
        | false =>
          go_wp2_with fail
          refine CD2.out.mono ?_
          rintro e w3 ⟨rfl, hb3⟩
          have hone : Rd (w3.alloc (.cells #[.int .i64 (i : Int)] 3)) (w3.heap.size + 1) (some ⟨w3.heap.size, 0, none⟩) (IB [(i : Int)]) := Rd.new w3 [.int .i64 (i : Int)] 3
          have hz : r.length + [(i : Int)].length ≤ 17592186044416 := by simp; omega
          have hb4 : Below w2.heap.size w2 w3 := HB.out.trans (hb3.mono hsw)
          have hba : w2.heap.size ≤ (w3.alloc (.cells #[.int .i64 (i : Int)] 3)).heap.size := by have := hb4.size; simp; omega
          have HOA := kept ((HOW.out.next hb3).alloc (.cells #[.int .i64 (i : Int)] 3))
          have hb5 : Below w2.heap.size w2 (w3.alloc (.cells #[.int .i64 (i : Int)] 3)) := hb4.alloc hb4.size _
          go_wp2_with (at_builtin; refine wpl_appI rfl (.tmp 35) (.tmp 37) rfl w2.heap.size _ r rfl HOA.out _ _ _ _ [(i : Int)] rfl rfl hone hz hba ?_; intro A2 c2 w4 r2 hr2 hown2 hg2 hb6; have HR2 := kept hr2.out; have HO3 := kept hown2; have HB3 := kept (hb5.trans hb6); clear hr2 hown2 hg2 hb6 hb5)
          go_roundw
          case rel => exact ⟨k + 1, A2, c2, r2, by omega, by go_num, rfl, ⟨by rw [HR2.out, HFT.out]; rfl⟩, HO3.out, HB3.out⟩
          case measure => simp [intOf]; omega
        | true =>
          go_wp2_with fail
          refine CD2.out.mono ?_
          rintro e w3 ⟨rfl, hb3⟩
          have HB3 := kept (HB.out.trans (hb3.mono hsw))
          have HOA := kept (HOW.out.next hb3)
          clear hb3
          go_wp2
          go_roundw
          case rel => exact ⟨k + 1, D, cc, r, by omega, by go_num, rfl, ⟨by rw [HFT.out]; simp⟩, HOA.out, HB3.out⟩
          case measure => simp [intOf]; omega
      · have hkb : ((kd : Int) == 1) = false := by simp; omega
        go_wp2
        go_roundw
        case rel => exact ⟨k + 1, D, cc, r, by omega, by go_num, rfl, ⟨by rw [HFT.out]; simp [hkd]⟩, HOW.out, HB.out⟩
        case measure => simp [intOf]; omega
    · have hz : r = l.filter (keepM fs s) := by rw [hr'.out, List.take_of_length_le (by omega)]
      have hall : AllI r := fun x hx => by
        rw [hz] at hx
        have := HLT.out x (List.mem_filter.1 hx).1
        have := H.out.2.2.1
        omega
      have hrl : r.length ≤ 1024 := by
        have h1 : r.length ≤ l.length := by rw [hz]; exact List.length_filter_le _ _
        omega
      have CO := kept (of_any D r.length cc r wr rfl hall hown.rd (by omega))
      have HZ := kept hz
      have HB := kept (bnx HB1.out (bnx HB2.out hb))
      clear hz hr' hown hb
      go_wp2_with fail
      refine CO.out.mono ?_
      rintro e w3 ⟨A3, c3, rfl, ho3, hc3, hb3⟩
      have HO3 := kept (ho3.mono HB.out.size)
      have HB3 := kept (bnx HB.out hb3)
      clear ho3 hb3
      go_wp2
      go_ret
      show GivesW w (ofI (List.filter (keepM fs s) (allI s))) _ _
      rw [HL.out, ← HZ.out]
      exact ⟨A3, c3, rfl, HO3.out, hc3, HB3.out⟩
end Go.Proofs.YtfkfpanhbanljaaGreat.Past
