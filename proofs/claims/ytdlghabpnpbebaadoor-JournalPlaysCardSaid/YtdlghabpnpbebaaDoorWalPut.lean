/- Layer 23 (wal): the walks of wal.Put, wal.Size and of the document's Put. -/
import Derived.Test.YtdlghabpnpbebaaDoorWalMath
import Derived.Test.YtdlghabpnpbebaaDoorCrcOf
import Derived.Test.YtdlghabpnpbebaaDoorNumWalksB
namespace Go.Proofs.YtdlghabpnpbebaaDoor.Wal
open Go.RowKit Go.Proofs.YtdlghabpnpbebaaDoor.Mem Go.Proofs.YtdlghabpnpbebaaDoor.Num Go.Proofs.YtdlghabpnpbebaaDoor.Crc Go.Proofs.YtdlghabpnpbebaaDoor.Shift

theorem le4_cells {s : Nat} (hs : s < 4294967296) : [Value.int .u8 ((s : Int) % 256), .int .u8 ((s : Int) / 256 % 256), .int .u8 ((s : Int) / 65536 % 256), .int .u8 ((s : Int) / 16777216)] = BB (le4 s) := by
  simp only [BB, le4, List.map_cons, List.map_nil, Int.natCast_emod, Int.natCast_ediv]
  have h3 : (s : Int) / 16777216 % 256 = (s : Int) / 16777216 := by omega
  simp [h3]
theorem own_cap {w : World} {base : Nat} {A : Option Addr} {c : Nat} {l : List Nat} (h : Own w base 5 (.slice A l.length c) (BB l)) : l.length ≤ c := by
  obtain ⟨_, _, he, hc1, _, _⟩ := h.form
  injection he with _ _ he
  subst he
  rwa [BB_length] at hc1
theorem below_next {w w1 w2 : World} (h : Below w.heap.size w w1) (h2 : Below w1.heap.size w1 w2) : Below w.heap.size w w2 := h.trans (h2.mono h.size)
theorem below_new {w w1 : World} (h : Below w.heap.size w w1) (o : Obj) : Below w.heap.size w (w1.alloc o) := h.alloc h.size o
theorem put_any (A : Option Addr) (n c : Nat) (l : List Nat) (w : World) (hn : n = l.length) (hT : Tab w) (hl : AllB l) (hr : Rd w w.heap.size A (BB l)) (hsz : l.length ≤ 140737488355000) :
    Calls Tryd.prog 34 #[.slice A n c] w (Gives w (recB l)) := by
  subst hn
  have C1 := kept (append_any none 0 0 [] l.length w rfl (by omega) Rd.nil (by simp))
  rw [List.nil_append] at C1
  have h9 : (numB l.length).length ≤ 9 := by have := lenB_le l.length; have := numB_length l.length; omega
  have HR := kept (fun (W : World) (h : Below w.heap.size w W) => (hr.next h))
  have HT := kept (fun (W : World) (h : Below w.heap.size w W) => hT.next h)
  have hal := headB_all hl
  have hlt := more_lt hal (c := 0) (by decide)
  have hhl : (headB l).length ≤ 10 + l.length := by have := headB_length l; have := lenB_le l.length; omega
  have h8 := lenB_le l.length
  clear hr hT
  go_enter Tryd.func34, Tryd.ntmps34
  go_wp2_with fail
  refine C1.out.mono ?_
  rintro e w1 ⟨A1, c1, rfl, hown1, hc1, hb1⟩
  have hr1 := HR.out w1 hb1
  have hz : (numB l.length).length + l.length ≤ 140737488355328 := by omega
  go_wp2_with (at_builtin; refine wpl_app rfl (.tmp 8) (.tmp 9) rfl w.heap.size _ (numB l.length) rfl hown1 _ A _ c l rfl rfl hr1 hz hb1.size ?_; intro A2 c2 w2 r2 hr2 hown2 hg2 hb2)
  obtain ⟨HD, hHD⟩ : ∃ r, r = headB l := ⟨_, rfl⟩
  have hr2' : r2 = HD := by rw [hr2.out, hHD]; rfl
  subst hr2'
  clear hr2
  rw [← hHD] at hal hlt hhl
  have hb2' := hb1.trans hb2
  have hok : Ok w2 A2 r2 := ⟨hown2.rd, hal, by omega⟩
  have C2 := kept (of1' w2 A2 r2 c2 (HT.out w2 hb2') hok)
  have HB2 := kept hb2'
  have HD := kept hHD
  clear hb2 hg2 hb2' hok hHD hown1 hr1 hb1
  go_wp2_with fail
  refine C2.out.mono ?_
  rintro e w' ⟨rfl, rfl⟩
  generalize hs : more 0 r2 = s at *
  have r4 : Rd ((w2.alloc (.cells #[.slice A2 r2.length c2] 22)).alloc (.cells #[.int .u8 ((s : Int) % 256), .int .u8 ((s : Int) / 256 % 256), .int .u8 ((s : Int) / 65536 % 256), .int .u8 ((s : Int) / 16777216)] 5)) (w2.heap.size + 2) (some ⟨w2.heap.size + 1, 0, none⟩) (BB (le4 s)) := by
    rw [← le4_cells hlt]
    exact Rd.newAt (w2.alloc (.cells #[.slice A2 r2.length c2] 22)) [.int .u8 ((s : Int) % 256), .int .u8 ((s : Int) / 256 % 256), .int .u8 ((s : Int) / 65536 % 256), .int .u8 ((s : Int) / 16777216)] 5 (by simp) (by omega)
  have o4 := (hown2.alloc (.cells #[.slice A2 r2.length c2] 22)).alloc (.cells #[.int .u8 ((s : Int) % 256), .int .u8 ((s : Int) / 256 % 256), .int .u8 ((s : Int) / 65536 % 256), .int .u8 ((s : Int) / 16777216)] 5)
  have hz4 : r2.length + (le4 s).length ≤ 140737488355328 := by simp [le4]; omega
  have hsz2 := HB2.out.size
  have hb4 := kept ((HB2.out.alloc hsz2 (.cells #[.slice A2 r2.length c2] 22)).alloc (by simp; omega) (.cells #[.int .u8 ((s : Int) % 256), .int .u8 ((s : Int) / 256 % 256), .int .u8 ((s : Int) / 65536 % 256), .int .u8 ((s : Int) / 16777216)] 5))
  have HS := kept hs
  clear hs
  go_wp2_with (at_builtin; refine wpl_app rfl (.tmp 14) (.tmp 26) rfl w.heap.size _ r2 rfl o4 _ _ _ _ (le4 s) rfl rfl r4 hz4 (by simp; omega) ?_; intro A4 c4 w4 r4' hr4 hown4 hg4 hb5)
  have HF : Kept (r4' = recB l) := ⟨by rw [hr4.out, HD.out, ← HS.out, HD.out]; rfl⟩
  have HB5 := kept (hb4.out.trans hb5)
  clear hr4 hg4 hb5
  go_ret
  obtain rfl := HF.out
  exact ⟨A4, c4, rfl, hown4, own_cap hown4, HB5.out⟩
end Go.Proofs.YtdlghabpnpbebaaDoor.Wal
