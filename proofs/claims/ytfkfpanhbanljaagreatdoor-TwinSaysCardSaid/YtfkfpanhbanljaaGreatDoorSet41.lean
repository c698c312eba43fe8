import Derived.Test.YtfkfpanhbanljaaGreatDoorSet40
import Derived.KernelRfl
import Derived.Test.YtfkfpanhbanljaaGreatDoorSet13
import Derived.BigQuiet
import Derived.Deep.DeepCutAuto
/- Layer 47 (twin): the order of the cards plays no part: the plain law. -/
namespace Go.Proofs.YtfkfpanhbanljaaGreatDoor.Twin
open Go.RowKit Go.Proofs.YtfkfpanhbanljaaGreatDoor.Mem Go.Proofs.YtfkfpanhbanljaaGreatDoor.Card

theorem conn_map {n : Nat} {adj adj' : Nat → Nat → Bool} {p : Nat → Nat} (hp : ∀ x, x < n → p x < n) (ha : ∀ x y, x < n → y < n → adj' x y = adj (p x) (p y)) {x y : Nat} (h : Conn n adj' x y) : Conn n adj (p x) (p y) := by
  induction h with
  | refl h => exact .refl _ (hp _ h)
  | step h1 h2 h3 ih => exact .step ih (hp _ h2) (by rw [← ha _ _ h1.right h2]; exact h3)
theorem conn_back {n : Nat} {adj adj' : Nat → Nat → Bool} {p : Nat → Nat} (hp : ∀ x, x < n → p x < n) (hi : ∀ x, x < n → p (p x) = x) (ha : ∀ x y, x < n → y < n → adj' x y = adj (p x) (p y)) {x y : Nat} (hx : x < n) (hy : y < n) (h : Conn n adj (p x) (p y)) : Conn n adj' x y := by
  have := conn_map (adj := adj') (adj' := adj) (p := p) hp (fun a b h1 h2 => by rw [ha _ _ (hp a h1) (hp b h2), hi a h1, hi b h2]) h
  rwa [hi x hx, hi y hy] at this
/-- the groups of cards in another order -/
theorem groups_perm {n : Nat} {adj adj' : Nat → Nat → Bool} {cid cid' : Nat → Nat} {p : Nat → Nat} (hs : ∀ i k, adj i k = adj k i) (hs' : ∀ i k, adj' i k = adj' k i) (hp : ∀ x, x < n → p x < n) (hi : ∀ x, x < n → p (p x) = x)
    (ha : ∀ x y, x < n → y < n → adj' x y = adj (p x) (p y)) (hc : ∀ x, x < n → cid' x = cid (p x)) :
    sortG (groupsL n cid' (headR adj' n 0)) = sortG (groupsL n cid (headR adj n 0)) := by
  have ok := headR_ok (n := n) (i := n) (k := 0) hs (.inr ⟨Nat.le_refl _, rfl⟩)
  have ok' := headR_ok (n := n) (i := n) (k := 0) hs' (.inr ⟨Nat.le_refl _, rfl⟩)
  have h1 := groups_same n cid' (headR adj' n 0) (fun x => headR adj n 0 (p x)) (fun x hx => (ok' x hx).1) (fun x hx => (ok (p x) (hp x hx)).1) fun x y hx hy => by
    rw [headR_iff hs' hx hy, headR_iff hs (hp x hx) (hp y hy)]
    exact ⟨conn_map hp ha, conn_back hp hi ha hx hy⟩
  have h2 : groupsL n cid' (fun x => headR adj n 0 (p x)) = groupsL n cid (headR adj n 0) := by
    unfold groupsL
    congr 1
    refine List.map_congr_left fun m _ => ?_
    refine rising_ext (norm_rising _) (norm_rising _) fun x => ?_
    rw [class_mem, class_mem]
    constructor
    · rintro ⟨i, h1, h2, h3⟩
      exact ⟨p i, hp i h1, h2, by rw [← hc i h1]; exact h3⟩
    · rintro ⟨i, h1, h2, h3⟩
      exact ⟨p i, hp i h1, by rw [hi i h1]; exact h2, by rw [hc _ (hp i h1), hi i h1]; exact h3⟩
  rw [sortG_ext h1, h2]
/-- the other order of the statement -/
def turnP (n f i : Nat) : Nat := (n - 1 - i + f) % n
theorem turn_lt {n f i : Nat} (hn : i < n) : turnP n f i < n := Nat.mod_lt _ (by omega)
theorem turn_back {n f i : Nat} (hi : i < n) : turnP n f (turnP n f i) = i := by
  have h1 : turnP n f i < n := turn_lt hi
  have h2 : n * ((n - 1 - i + f) / n) + turnP n f i = n - 1 - i + f := Nat.div_add_mod _ _
  generalize turnP n f i = r at *
  unfold turnP
  have h3 : n - 1 - r + f = i + n * ((n - 1 - i + f) / n) := by
    generalize n * ((n - 1 - i + f) / n) = q at *
    omega
  rw [h3, Nat.add_mul_mod_self_left, Nat.mod_eq_of_lt hi]
def turned (f : Nat) (l : List CardM) : List CardM := (List.range l.length).map fun i => l.getD (turnP l.length f i) cz
theorem turned_len (f : Nat) (l : List CardM) : (turned f l).length = l.length := by simp [turned]
theorem turned_at {f : Nat} {l : List CardM} {i : Nat} (hi : i < l.length) : (turned f l).getD i cz = l.getD (turnP l.length f i) cz := by simp [turned, List.getD, hi]
theorem turned_mem {f : Nat} {l : List CardM} {x : CardM} (h : x ∈ turned f l) : x ∈ l := by
  unfold turned at h
  obtain ⟨i, h1, rfl⟩ := List.mem_map.1 h
  have hi := List.mem_range.1 h1
  have h2 := turn_lt (f := f) hi
  rw [show l.getD (turnP l.length f i) cz = l[turnP l.length f i] from by simp [List.getD, h2]]
  exact List.getElem_mem _
theorem groups_turned (f : Nat) (l : List CardM) : sortG (groupsL (turned f l).length (cidAt (turned f l)) (headR (adjB (turned f l)) (turned f l).length 0)) = sortG (groupsL l.length (cidAt l) (headR (adjB l) l.length 0)) := by
  rw [turned_len]
  refine groups_perm (p := turnP l.length f) (adjB_symm l) (adjB_symm _) (fun x hx => turn_lt hx) (fun x hx => turn_back hx) (fun x y hx hy => ?_) (fun x hx => ?_)
  · unfold adjB; rw [turned_at hx, turned_at hy]
  · unfold cidAt; rw [turned_at hx]
theorem turned_next {f : Nat} {l : List CardM} {i : Nat} {x : CardM} (hi : i < l.length) (hx : l[turnP l.length f i]? = some x) : (turned f l).take (i + 1) = (turned f l).take i ++ [x] := by
  have h1 : i < (turned f l).length := by rw [turned_len]; exact hi
  rw [List.take_succ_eq_append_getElem h1]
  have h2 := turned_at (f := f) hi
  simp only [List.getD, List.getElem?_eq_getElem h1, Option.getD_some] at h2
  rw [h2, hx]
  rfl
/-! asked the other way round it is the same -/
theorem some_symm {p : ByteArray → ByteArray → Bool} (hp : ∀ x y, p x y = p y x) (a b : List ByteArray) : someM p a b = someM p b a := by
  rw [Bool.eq_iff_iff]
  unfold someM
  simp only [List.any_eq_true]
  exact ⟨fun ⟨x, hx, y, hy, h⟩ => ⟨y, hy, x, hx, by rw [hp]; exact h⟩, fun ⟨x, hx, y, hy, h⟩ => ⟨y, hy, x, hx, by rw [hp]; exact h⟩⟩
theorem small_symm (x y : ByteArray) : eqSmall x y = eqSmall y x := by
  unfold eqSmall
  by_cases h : x.size = y.size
  · rw [decide_eq_true h, decide_eq_true h.symm, h]
    refine congrArg _ (congrArg _ (funext fun i => ?_))
    rw [decide_eq_decide]
    exact eq_comm
  · rw [decide_eq_false h, decide_eq_false (fun e => h e.symm)]; rfl
theorem mail_symm (x y : ByteArray) : mailB x y = mailB y x := by
  unfold mailB
  rw [small_symm x y]
  cases h : eqSmall y x with
  | false => simp
  | true =>
    have hs : y.size = x.size := by
      unfold eqSmall at h
      rw [Bool.and_eq_true] at h
      exact of_decide_eq_true h.1
    have he : ∀ z : ByteArray, z = ⟨#[]⟩ ↔ z.size = 0 := fun z => by
      constructor
      · rintro rfl; rfl
      · intro h0
        obtain ⟨d⟩ := z
        have : d = #[] := by
          have h1 : d.size = 0 := h0
          exact Array.eq_empty_of_size_eq_zero h1
        rw [this]
    rw [Bool.and_true, Bool.and_true, decide_eq_decide]
    exact not_congr ((he x).trans ((by rw [hs] : x.size = 0 ↔ y.size = 0).trans (he y).symm))
theorem alike_symm (hp : ∀ x y, Phone.sameB x y = Phone.sameB y x) (a b : CardM) : alikeB a b = alikeB b a := by
  unfold alikeB
  rw [some_symm hp, some_symm mail_symm]
  congr 1
  by_cases h : Fold.foldB (titleOf a.ls) = Fold.foldB (titleOf b.ls)
  · rw [h]
  · have e1 : decide (Fold.foldB (titleOf a.ls) = Fold.foldB (titleOf b.ls)) = false := decide_eq_false h
    have e2 : decide (Fold.foldB (titleOf b.ls) = Fold.foldB (titleOf a.ls)) = false := decide_eq_false fun e => h e.symm
    rw [e1, e2, Bool.and_false, Bool.and_false]
end Go.Proofs.YtfkfpanhbanljaaGreatDoor.Twin

/- Layer 47 (twin): the chapter's example: the plain part. -/
namespace Go.Proofs.YtfkfpanhbanljaaGreatDoor.Twin
open Go.RowKit Go.Proofs.YtfkfpanhbanljaaGreatDoor.Mem Go.Proofs.YtfkfpanhbanljaaGreatDoor.Card

def exA (X : Option Addr) : CardM := ⟨7, X, [⟨1, ⟨#[65, 110, 110]⟩, none, [], 0⟩, ⟨2, ⟨#[48, 51, 48, 32, 49, 50, 51, 52, 53, 54, 55]⟩, none, [], 0⟩], 2⟩
def exB (X : Option Addr) : CardM := ⟨5, X, [⟨1, ⟨#[65, 46, 32, 76, 101, 101]⟩, none, [], 0⟩, ⟨2, ⟨#[43, 52, 57, 32, 51, 48, 32, 49, 50, 51, 52, 53, 54, 55]⟩, none, [], 0⟩, ⟨3, ⟨#[65, 64, 66]⟩, none, [], 0⟩], 3⟩
def exC (X : Option Addr) : CardM := ⟨6, X, [⟨1, ⟨#[76, 101, 101]⟩, none, [], 0⟩, ⟨3, ⟨#[97, 64, 98]⟩, none, [], 0⟩], 2⟩
theorem ex_ac (X Z : Option Addr) : alikeB (exA X) (exC Z) = false := by kernel_rfl
theorem ex_groups (X Y Z : Option Addr) : sortG (groupsL 3 (cidAt [exA X, exB Y, exC Z]) (headR (adjB [exA X, exB Y, exC Z]) 3 0)) = [[5, 6, 7]] := by kernel_rfl
end Go.Proofs.YtfkfpanhbanljaaGreatDoor.Twin

/- Layer 47 (twin): lists of groups that are the same; few cards. -/
namespace Go.Proofs.YtfkfpanhbanljaaGreatDoor.Twin
open Go.RowKit Go.Proofs.YtfkfpanhbanljaaGreatDoor.Mem Go.Proofs.YtfkfpanhbanljaaGreatDoor.Card

set_option maxRecDepth 100000 in
set_option maxHeartbeats 4000000 in
theorem gsame_true (A B : Option Addr) (ca cb : Nat) (gs hs : List GrpM) (w : World) (hg : RdG w A gs) (hh : RdG w B hs) (he : gs.map GrpM.l = hs.map GrpM.l) (hl : gs.length ≤ 1000000) (hll : ∀ g ∈ gs, g.l.length ≤ 1000000) :
    Calls Tryz.prog 22 #[.slice A gs.length ca, .slice B hs.length cb] w fun e w' => e = .returned (.bool true) ∧ Below w.heap.size w w' := by
  have hlen : gs.length = hs.length := by have := congrArg List.length he; simpa using this
  have HG := kept hg
  have HH := kept hh
  have HE : Kept (∀ (i : Nat) g h, gs[i]? = some g → hs[i]? = some h → g.l = h.l) := ⟨fun i g h h1 h2 => by
    have := congrArg (·[i]?) he
    simpa [h1, h2] using this⟩
  have HLL := kept hll
  have HLN := kept hlen
  clear hg hh he hll
  have e0 : ((gs.length : Int) != (hs.length : Int)) = false := by simp; omega
  clear hlen
  go_enter Tryz.func22, Tryz.ntmps22
  go_wp2_with fail
  go_loopw [5] (fun a wr => ∃ (i q : Nat), i ≤ gs.length ∧ a = .int .i64 (i : Int) ∧ Kept (wr = w.drewN q)) (fun a _ => gs.length - (intOf a).toNat)
  case atStart => exact ⟨0, 0, Nat.zero_le _, rfl, ⟨rfl⟩⟩
  case round =>
    obtain ⟨i, q, hi, rfl, HW⟩ := hrel
    by_cases hlt : i < gs.length
    · have hlt2 : i < hs.length := by have := HLN.out; omega
      have hin : (i : Int) < (gs.length : Int) := by omega
      have hin2 : (i : Int) < (hs.length : Int) := by omega
      obtain ⟨g, hg⟩ : ∃ g, gs[i]? = some g := ⟨_, List.getElem?_eq_getElem hlt⟩
      obtain ⟨h, hh⟩ : ∃ h, hs[i]? = some h := ⟨_, List.getElem?_eq_getElem hlt2⟩
      obtain ⟨b1, o1, rfl, hb1, x0⟩ := grpE_get HG.out.1 hg
      obtain ⟨b2, o2, rfl, hb2, y0⟩ := grpE_get HH.out.1 hh
      have hrg := HG.out.2 g (List.mem_of_getElem? hg)
      have hrh := HH.out.2 h (List.mem_of_getElem? hh)
      have heq := HE.out i g h hg hh
      have hgl := HLL.out g (List.mem_of_getElem? hg)
      have hwb : Below w.heap.size w wr := by rw [HW.out]; exact below_draw _ w q
      have x0 := (hwb.cell (p := ⟨b1, o1 + i, none⟩) hb1).trans x0
      have y0 := (hwb.cell (p := ⟨b2, o2 + i, none⟩) hb2).trans y0
      obtain ⟨gA, gl, gc⟩ := g
      obtain ⟨hA, hl2, hc⟩ := h
      unfold GrpM.val at x0 y0
      dsimp only at heq x0 y0 hrg hrh hgl
      subst heq
      have HRG := kept (hrg.next hwb)
      have HRH := kept (hrh.next hwb)
      have HC1 : Kept (∀ n, (wr.drewN n).cell? ⟨b1, o1 + i, none⟩ = some (.slice gA gl.length gc) ∧ (wr.drewN n).cell? ⟨b2, o2 + i, none⟩ = some (.slice hA gl.length hc)) := ⟨fun n => ⟨x0, y0⟩⟩
      have e1 : ((gl.length : Int) != (gl.length : Int)) = false := by simp
      clear hg hh hrg hrh hwb
      go_wp2_with fail
      go_quiet (fail)
      go_wp2_with fail
      obtain ⟨x1, y1⟩ := HC1.out nq
      have HRG1 : Kept (Mem.Rd (wr.drewN nq) (wr.drewN nq).heap.size gA (WB gl)) := ⟨HRG.out.next (below_draw _ wr nq)⟩
      have HRH1 : Kept (Mem.Rd (wr.drewN nq) (wr.drewN nq).heap.size hA (WB gl)) := ⟨HRH.out.next (below_draw _ wr nq)⟩
      have HW1 : Kept (wr.drewN nq = w.drewN (q + nq)) := ⟨by rw [HW.out, World.drewN_drewN]⟩
      clear HC1 HRG HRH x0 y0 HW
      generalize wr.drewN nq = w1 at *
      go_loopw [6] (fun a wr2 => ∃ (k q : Nat), k ≤ gl.length ∧ a = .int .i64 (k : Int) ∧ Kept (wr2 = w.drewN q) ∧ Kept (Mem.Rd wr2 wr2.heap.size gA (WB gl) ∧ Mem.Rd wr2 wr2.heap.size hA (WB gl) ∧ wr2.cell? ⟨b1, o1 + i, none⟩ = some (.slice gA gl.length gc) ∧ wr2.cell? ⟨b2, o2 + i, none⟩ = some (.slice hA gl.length hc))) (fun a _ => gl.length - (intOf a).toNat)
      case atStart => exact ⟨0, q + nq, Nat.zero_le _, rfl, HW1, ⟨HRG1.out, HRH1.out, x1, y1⟩⟩
      case round =>
        clear HW1 HRG1 HRH1 x1 y1
        obtain ⟨k, q2, hk, rfl, HW, HR⟩ := hrel
        obtain ⟨-, -, x1, y1⟩ := HR.out
        by_cases hkl : k < gl.length
        · have hkn : (k : Int) < (gl.length : Int) := by omega
          have hxw := WB_get gl k hkl
          obtain ⟨b3, o3, rfl, -, x2⟩ := HR.out.1.at_ hxw
          obtain ⟨b4, o4, rfl, -, y2⟩ := HR.out.2.1.at_ hxw
          clear hxw
          generalize gl.getD k 0 = v at *
          have e2 : ((v : Int) != (v : Int)) = false := by simp
          go_wp2_with fail
          go_quiet (fail)
          go_wp2_with fail
          go_roundw
          case rel => exact ⟨k + 1, q2 + nq, by omega, by go_num, ⟨by rw [HW.out, World.drewN_drewN]⟩, ⟨HR.out.1.next (below_draw _ _ _), HR.out.2.1.next (below_draw _ _ _), x1, y1⟩⟩
          case measure => simp [intOf]; omega
        · obtain rfl : k = gl.length := by omega
          have hge : ¬ (gl.length : Int) < (gl.length : Int) := by omega
          go_wp2_with fail
          go_roundw
          case rel => exact ⟨i + 1, q2, by omega, by go_num, HW⟩
          case measure => simp [intOf]; omega
    · obtain rfl : i = gs.length := by omega
      have hge : ¬ (gs.length : Int) < (gs.length : Int) := by omega
      have HB : Kept (Below w.heap.size w wr) := ⟨by rw [HW.out]; exact below_draw _ w q⟩
      go_wp2_with fail
      go_ret
      exact ⟨rfl, HB.out⟩
def fewT (l : List CardM) : Prop := l.length ≤ 10 ∧ Chg.fewC l
instance (l : List CardM) : Decidable (fewT l) := by unfold fewT; infer_instance
theorem tfew_any (X : Option Addr) (l : List CardM) (c : Nat) (w : World) (hr : RdCards w w.heap.size X l) (hsz : l.length ≤ 9223372036854775807) :
    Calls Tryz.prog 18 #[.slice X l.length c] w fun e w' => e = .returned (.bool (decide (fewT l))) ∧ w = w' := by
  have CF := kept (Chg.few_any X l c w hr hsz)
  clear hr
  by_cases h1 : l.length ≤ 10
  · have h2 : (l.length : Int) ≤ 10 := by omega
    have HD : Kept (decide (fewT l) = decide (Chg.fewC l)) := ⟨by rw [decide_eq_decide]; exact ⟨fun h => h.2, fun h => ⟨h1, h⟩⟩⟩
    generalize decide (Chg.fewC l) = d at *
    go_enter Tryz.func18, Tryz.ntmps18
    go_wp2_with fail
    refine CF.out.mono ?_
    rintro e w1 ⟨rfl, rfl⟩
    go_wp2_with fail
    go_ret
    rw [HD.out]
    exact ⟨rfl, rfl⟩
  · have h2 : ¬ (l.length : Int) ≤ 10 := by omega
    have HD : Kept (decide (fewT l) = false) := ⟨decide_eq_false fun h => h1 h.1⟩
    go_enter Tryz.func18, Tryz.ntmps18
    go_wp2_with fail
    go_ret
    rw [HD.out]
    exact ⟨rfl, rfl⟩
end Go.Proofs.YtfkfpanhbanljaaGreatDoor.Twin
