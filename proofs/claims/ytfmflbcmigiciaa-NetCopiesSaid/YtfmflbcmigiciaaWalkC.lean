/- Chapter 05: At. -/
import Derived.Test.YtfmflbcmigiciaaWalkB
namespace Go.Proofs.Ytfmflbcmigiciaa
open Go.RowKit

/-- A message in a row: whom from, whom to, where its bytes lie. -/
structure Raw where
  f : Int
  t : Int
  A : Option Addr
  n : Nat
  c : Nat
def Raw.cs (r : Raw) : List Value := [.int .i64 r.f, .int .i64 r.t, .slice r.A r.n r.c]
theorem raw_len (r : Raw) : r.cs.length = 3 := rfl
theorem raw_one (l : List Raw) : ∀ u ∈ l.flatMap Raw.cs, u.oneCell' = true := by
  intro u hu
  obtain ⟨b, _, hb⟩ := List.mem_flatMap.1 hu
  simp only [Raw.cs, List.mem_cons, List.not_mem_nil, or_false] at hb
  rcases hb with rfl | rfl | rfl <;> rfl
abbrev MR (w : World) (B : Nat) (A : Option Addr) (l : List Raw) : Prop := Reads w B 3 A l.length (l.flatMap Raw.cs)
theorem raw_elem {w : World} {B : Nat} {A : Option Addr} {l : List Raw} (h : MR w B A l) {k : Nat} (hk : k < l.length) :
    ∃ b o f t rA n c, A = some ⟨b, o, none⟩ ∧ b < B ∧ l[k]? = some ⟨f, t, rA, n, c⟩ ∧ w.cell? ⟨b, o + k * 3, none⟩ = some (.int .i64 f) ∧ w.cell? ⟨b, o + k * 3 + 1, none⟩ = some (.int .i64 t) ∧ w.cell? ⟨b, o + k * 3 + 2, none⟩ = some (.slice rA n c) := by
  obtain ⟨b, o, rfl, hB, hc⟩ := Reads.elem raw_len h hk (by omega)
  have y0 := hc 0 _ (by omega) rfl
  have y1 := hc 1 _ (by omega) rfl
  have y2 := hc 2 _ (by omega) rfl
  rw [Nat.add_zero] at y0
  exact ⟨b, o, l[k].f, l[k].t, l[k].A, l[k].n, l[k].c, rfl, hB, List.getElem?_eq_getElem hk, y0, y1, y2⟩

def msg0 : Value := .agg #[.int .i64 0, .int .i64 0, .slice none 0 0]

theorem at_nil (i : Int) (w : World) : Calls Try.prog 16 #[.pointer none, .int .i64 i] w fun e w' => e = .returned (.tuple #[msg0, .int .i64 4]) ∧ Below w.heap.size w w' := by
  go_enter Try.func16, Try.ntmps16
  go_wp2_with fail
  refine bodyPost_ret (v := .tuple #[msg0, .int .i64 4]) (by simp [results, Try.results16, go_sem, msg0]) rfl ⟨rfl, ?_⟩
  exact (Below.refl _ _).alloc (Nat.le_refl _) _

theorem at_no (G n c : Nat) (A : Option Addr) (most N i : Int) (cut : Nat → Nat → Bool) (w : World) (h : Blk w G 56 (netA (.slice A n c) most N cut)) (hi : hasB n i = false) : Calls Try.prog 16 #[.pointer (some ⟨G, 0, none⟩), .int .i64 i] w fun e w' => e = .returned (.tuple #[msg0, .int .i64 4]) ∧ Below w.heap.size w w' := by
  have C := Lib.hid (has_any G n c A most N i cut _ (h.alloc (.cells #[.int .i64 0, .int .i64 0, .slice none 0 0] 33)))
  rw [hi] at C
  have gl := h.lt
  clear h hi
  go_enter Try.func16, Try.ntmps16
  go_wp2_with fail
  refine C.out.mono ?_
  rintro e w1 ⟨rfl, rfl⟩
  go_wp2_with fail
  refine bodyPost_ret (v := .tuple #[msg0, .int .i64 4]) (by simp [results, Try.results16, go_sem, msg0]) rfl ⟨rfl, ?_⟩
  exact (Below.refl _ _).alloc (Nat.le_refl _) _

theorem at_yes (G n c k : Nat) (A : Option Addr) (most N : Int) (cut : Nat → Nat → Bool) (rs : List Raw) (f t : Int) (rA : Option Addr) (rc : Nat) (bs : List Int) (w : World) (h : Blk w G 56 (netA (.slice A n c) most N cut)) (hn : rs.length = n) (hm : MR w w.heap.size A rs) (hr : rs[k]? = some ⟨f, t, rA, bs.length, rc⟩) (hb : BR w w.heap.size rA bs) (hl : bs.length ≤ 1000000000) :
    Calls Try.prog 16 #[.pointer (some ⟨G, 0, none⟩), .int .i64 k] w fun e w' => ∃ A' c', e = .returned (.tuple #[.agg #[.int .i64 f, .int .i64 t, .slice A' bs.length c'], .int .i64 0]) ∧ Below w.heap.size w w' ∧ bs.length ≤ c' ∧ c' ≤ maxLen ∧ w'.ownsRow w.heap.size 5 1 (.slice A' bs.length c') bs.length (bs.map (.int .u8)) := by
  subst hn
  have hk : k < rs.length := (List.getElem?_eq_some_iff.1 hr).1
  obtain ⟨W0, hW0⟩ : ∃ W0, W0 = w.alloc (.cells #[.int .i64 0, .int .i64 0, .slice none 0 0] 33) := ⟨_, rfl⟩
  have hb0 : Below w.heap.size w W0 := by rw [hW0]; exact (Below.refl _ _).alloc (Nat.le_refl _) _
  have hR : Blk W0 w.heap.size 33 #[.int .i64 0, .int .i64 0, .slice none 0 0] := by rw [hW0]; exact Blk.new _ _ _
  have hG := h.below hb0 h.lt
  have C := Lib.hid (has_any G rs.length c A most N k cut W0 hG)
  rw [show hasB rs.length k = true from decide_eq_true (by omega)] at C
  have g0 := (hG.cell 0).trans (netA_lo _ _ _ _).1
  have gl := hG.lt
  obtain ⟨b, o, f', t', rA', n', c', rfl, hBb, hr', y0, y1, y2⟩ := raw_elem (hm.below hb0) hk
  rw [hr] at hr'
  cases hr'
  have hbb : b < W0.heap.size := by have := hb0.size; omega
  have HO := Lib.hid (own_any f t bs rA rc _ W0 ((hb.below hb0).more hb0.size) (Nat.le_refl _) hl)
  have HR := Lib.hid hR
  have rl := hR.lt
  have hs0 : W0.heap.size = w.heap.size + 1 := by rw [hW0]; simp
  clear h hr hm hb hG hR
  go_enter Try.func16, Try.ntmps16
  go_wp2_with fail
  rw [← hW0]
  refine C.out.mono ?_
  rintro e w1 ⟨rfl, rfl⟩
  clear hW0
  go_wp2_with fail
  refine HO.out.mono ?_
  rintro e w2 ⟨A', c', rfl, hb2, hc1, hc2, hown⟩
  have hR2 := HR.out.below hb2 rl
  obtain ⟨r0, r1, r2⟩ := blk_cell3 hR2
  have rf := hR2.frozen
  have rl2 := hR2.lt
  have HOW := Lib.hid hown
  have hb02 := hb0.trans (hb2.mono hb0.size)
  clear hown hR2 hb2 g0 gl y0 y1 y2 HO C
  go_wp2_with fail
  refine bodyPost_ret (v := .tuple #[.agg #[.int .i64 f, .int .i64 t, .slice A' bs.length c'], .int .i64 0]) (by simp [results, Try.results16, go_sem, r0, r1, r2]) rfl ?_
  have o2 := ownsRow_setCell_below (ownsRow_setCell_below (ownsRow_setCell_below HOW.out (a := ⟨w.heap.size, 0, none⟩) (by show w.heap.size < W0.heap.size; omega) (.int .i64 f)) (a := ⟨w.heap.size, 1, none⟩) (by show w.heap.size < W0.heap.size; omega) (.int .i64 t)) (a := ⟨w.heap.size, 2, none⟩) (by show w.heap.size < W0.heap.size; omega) (.slice A' bs.length c')
  obtain ⟨q1, q2⟩ := o2
  refine ⟨A', c', rfl, ?_, hc1, hc2, q1, ?_⟩
  · exact ((hb02.setCell (p := ⟨w.heap.size, 0, none⟩) (Nat.le_refl _) _).setCell (p := ⟨w.heap.size, 1, none⟩) (Nat.le_refl _) _).setCell (p := ⟨w.heap.size, 2, none⟩) (Nat.le_refl _) _
  · rcases q2 with q2 | ⟨g, cap, cur, e1, e2, e3⟩
    · exact .inl q2
    · exact .inr ⟨g, cap, cur, e1, by omega, e3⟩
end Go.Proofs.Ytfmflbcmigiciaa
