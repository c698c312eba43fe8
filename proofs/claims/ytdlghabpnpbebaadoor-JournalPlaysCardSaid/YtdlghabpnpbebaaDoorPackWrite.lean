/- The walks of layer 4: a writer's calls. -/
import Derived.Test.YtdlghabpnpbebaaDoorBytesU
import Derived.Test.YtdlghabpnpbebaaDoorPackBackMath
import Derived.Test.YtdlghabpnpbebaaDoorNumWalksB
namespace Go.Proofs.YtdlghabpnpbebaaDoor.Pack
open Go.RowKit Go.Proofs.YtdlghabpnpbebaaDoor.Mem Go.Proofs.YtdlghabpnpbebaaDoor.Num Go.Proofs.YtdlghabpnpbebaaDoor.Shift

/-- a writer of the bytes l lies at block g, on the ground S -/
def Wtr (w : World) (S : Nat → Prop) (g : Nat) (l : List Nat) : Prop :=
  S g ∧ (∀ k, S k → k < w.heap.size) ∧ ∃ A c, Blk w g [.slice A l.length c] 101 ∧ Own w 0 5 (.slice A l.length c) (BB l) ∧ ∀ x, A = some x → S x.block
/-- what a call on it gives: nothing, and a writer of l' -/
def Puts (S : Nat → Prop) (g : Nat) (w : World) (l' : List Nat) (e : Ending) (w' : World) : Prop := e = .returned (.tuple #[]) ∧ ∃ S', Wtr w' S' g l' ∧ Goes S w S' w'
theorem Wtr.upd {T S : Nat → Prop} {w w' : World} {g : Nat} {l : List Nat} (h : Wtr w S g l) (hu : Upd T w w') (hd : ∀ k, S k → ¬ T k) : Wtr w' S g l := by
  obtain ⟨hg, hS, A, c, hk, hr, ha⟩ := h
  exact ⟨hg, fun k hk => Nat.lt_of_lt_of_le (hS k hk) hu.size, A, c, hk.upd hu (hd g hg), hr.upd hu (fun k hk => by
    rcases A with _ | a
    · cases hk
    · obtain rfl : a.block = k := Option.some.inj hk
      exact hd _ (ha a rfl)), ha⟩
theorem Wtr.next {S : Nat → Prop} {w w' : World} {g : Nat} {l : List Nat} (h : Wtr w S g l) (hb : Below w.heap.size w w') : Wtr w' S g l := h.upd (Upd.of_below (S := fun _ => False) hb) fun _ _ e => e
theorem Wtr.under {S : Nat → Prop} {w : World} {g : Nat} {l : List Nat} (h : Wtr w S g l) : ∀ k, S k → k < w.heap.size := h.2.1
/-- a plain writer -/
theorem Wtr.new (w : World) : Wtr (w.alloc (.cells #[.slice none 0 0] 101)) (fun k => k = w.heap.size) w.heap.size [] :=
  ⟨rfl, fun k hk => by subst hk; simp, none, 0, Blk.new w [.slice none 0 0] _, Own.nilv _ _ _, fun _ h => by cases h⟩
theorem put_any (S : Nat → Prop) (g : Nat) (l : List Nat) (X : Option Addr) (m c2 : Nat) (news : List Nat) (w : World) (h : Wtr w S g l) (hm : m = news.length) (hr : Rd w w.heap.size X (BB news)) (hsz : l.length + news.length ≤ 140737488355328) :
    Calls Tryd.prog 72 #[.pointer (some ⟨g, 0, none⟩), .slice X m c2] w (Puts S g w (l ++ news)) := by
  obtain ⟨hg, hS, A, c, hk, hown, ha⟩ := h
  have h0 := hk.cell (j := 0) rfl
  have hlt := hk.lt
  have HK := kept hk
  have HA := kept (hown.apart hk (by decide))
  have HA2 := kept ha
  clear hk ha
  go_enter Tryd.func72, Tryd.ntmps72
  go_wp2_with (at_builtin; refine wpl_appU rfl (.tmp 10) (.tmp 11) rfl _ l rfl hown w.heap.size X m c2 news rfl hm hr hsz ?_; intro A2 c2 w2 r2 hr2 hown2 hg2 hx2; have hk2 : Blk w2 g [.slice A l.length c] 101 := HK.out.upd (hg2 (fun k => k ≠ g) HA.out) (fun e => e rfl); have hz0 := hk2.cell (j := 0) rfl; have hf0 := hk2.frozen 0; have HK2 := kept hk2; clear hk2; have HG2 := kept hg2; have HX2 := kept hx2; clear hg2 hx2)
  go_end0
  obtain rfl : r2 = l ++ news := hr2.out
  have hu : Upd S w (w2.setCell ⟨g, 0, none⟩ (.slice A2 (l ++ news).length c2)) := (HG2.out S (fun k hk => by
    rcases A with _ | a
    · cases hk
    · obtain rfl : a.block = k := Option.some.inj hk
      exact HA2.out a rfl)).setCell (p := ⟨g, 0, none⟩) (.inl hg) _
  have hlt2 : ∀ x, A2 = some x → x.block < w2.heap.size := fun x hx => by subst hx; exact (hown2.lt x.block rfl).2
  have hap := hown2.apart HK2.out (by decide)
  refine ⟨rfl, fun k => S k ∨ ∃ x, A2 = some x ∧ x.block = k, ⟨.inl hg, ?_, A2, c2, HK2.out.set 0 _, OwnK.other hown2 (.inr fun e => ?_) _, fun x hx => .inr ⟨x, hx, rfl⟩⟩, hu, ?_⟩
  · rintro k (hk | ⟨x, hx, rfl⟩)
    · exact Nat.lt_of_lt_of_le (hS k hk) hu.size
    · simpa [World.setCell] using hlt2 x hx
  · exact hap g e rfl
  · rintro k (hk | ⟨x, hx, rfl⟩)
    · exact .inl hk
    · rcases HX2.out x hx with h1 | h1
      · rcases A with _ | a
        · cases h1
        · obtain he : a.block = x.block := Option.some.inj h1
          exact .inl (he ▸ HA2.out a rfl)
      · exact .inr h1
theorem Puts.then {S : Nat → Prop} {g : Nat} {w w1 : World} {l : List Nat} {e : Ending} {w' : World} (h : Below w.heap.size w w1) (k : Puts S g w1 l e w') : Puts S g w l e w' := by
  obtain ⟨he, S', h1, h2, h3⟩ := k
  exact ⟨he, S', h1, (Upd.of_below h).trans h2, fun i hi => (h3 i hi).elim .inl fun h4 => .inr (Nat.le_trans h.size h4)⟩
theorem wnum_any (S : Nat → Prop) (g : Nat) (l : List Nat) (v : Nat) (w : World) (h : Wtr w S g l) (hv : v < 18446744073709551616) (hsz : l.length ≤ 140737488355000) :
    Calls Tryd.prog 57 #[.pointer (some ⟨g, 0, none⟩), .int .u64 (v : Int)] w (Puts S g w (l ++ numB v)) := by
  have C1 := kept (append_any none 0 0 [] v w rfl hv Rd.nil (by simp))
  have hl8 := lenB_le v
  have hnl := numB_length v
  have C2 := kept (fun W h A c (hr : Rd W W.heap.size A (BB (numB v))) => put_any S g l A _ c (numB v) W h rfl hr (by omega))
  rw [List.nil_append] at C1
  have HR := kept h
  generalize numB v = nb at *
  have HL := kept hnl
  clear h hnl
  go_enter Tryd.func57, Tryd.ntmps57
  go_wp2_with fail
  refine C1.out.mono ?_
  rintro e w1 ⟨A1, c1, rfl, hown, hc1, hb⟩
  go_wp2_with fail
  refine (C2.out _ (HR.out.next hb) _ _ hown.rd).mono ?_
  rintro e w2 hp
  have hp2 := hp.then hb
  clear hp
  obtain ⟨rfl, hp3⟩ := hp2
  have HP := kept hp3
  clear hp3
  go_wp2
  go_end0
  exact ⟨rfl, HP.out⟩
theorem wbytes_any (S : Nat → Prop) (g : Nat) (l : List Nat) (w : World) (h : Wtr w S g l) (hsz : l.length ≤ 140737488355000) :
    Calls Tryd.prog 58 #[.pointer (some ⟨g, 0, none⟩)] w (Gives w l) := by
  obtain ⟨hg, hS, A, c, hk, hown, ha⟩ := h
  have h0 := hk.cell (j := 0) rfl
  have hlt := hk.lt
  have hr := hown.rd
  have hz : ([] : List Nat).length + l.length ≤ 140737488355328 := by simp; omega
  clear hk ha hown
  go_enter Tryd.func58, Tryd.ntmps58
  go_wp2_with (at_builtin; refine wpl_app rfl (.const (.slice none 0 0)) (.tmp 8) rfl w.heap.size _ [] rfl (Own.nilv _ _ _) w.heap.size A _ c l rfl rfl hr hz (Nat.le_refl _) ?_; intro A2 c2 w2 r2 hr2 hown2 hg2 hb2)
  go_ret
  obtain rfl : r2 = l := hr2.out
  obtain ⟨_, _, he, hc1, _, _⟩ := hown2.form
  injection he with _ _ he
  subst he
  rw [BB_length] at hc1
  exact ⟨A2, _, rfl, hown2, hc1, hb2⟩
end Go.Proofs.YtdlghabpnpbebaaDoor.Pack
