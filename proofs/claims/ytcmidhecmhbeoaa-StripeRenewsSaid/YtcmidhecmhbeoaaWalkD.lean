/- Chapter 14: the fragment of an entry, its write set. -/
import Derived.Test.YtcmidhecmhbeoaaWalkC
namespace Go.Proofs.Ytcmidhecmhbeoaa
open Go.RowKit

/-- A fragment in memory: two cells. -/
def FC (w : World) (g o : Nat) (first : Int) (A : Option Addr) (k c : Nat) : Prop := w.cell? ⟨g, o, none⟩ = some (.int .u64 first) ∧ w.cell? ⟨g, o + 1, none⟩ = some (.slice A k c)
theorem FC.below {w w' : World} {B g o : Nat} {first : Int} {A : Option Addr} {k c : Nat} (h : FC w g o first A k c) (hb : Below B w w') (hg : g < B) : FC w' g o first A k c :=
  ⟨(hb.cell (p := ⟨g, o, none⟩) hg).trans h.1, (hb.cell (p := ⟨g, o + 1, none⟩) hg).trans h.2⟩
theorem FC.of_blk {w : World} {g : Nat} {first : Int} {A : Option Addr} {k c : Nat} (h : Blk w g 25 #[.int .u64 first, .slice A k c]) : FC w g 0 first A k c := ⟨h.cell 0, h.cell 1⟩
theorem blk_cell2 {w : World} {g : Nat} {t : TypeId} {v0 v1 : Value} (h : Blk w g t #[v0, v1]) : w.cell? ⟨g, 0, none⟩ = some v0 ∧ w.cell? ⟨g, 1, none⟩ = some v1 := ⟨h.cell 0, h.cell 1⟩

set_option maxHeartbeats 400000 in
theorem fragIs_any (first n : Int) (A : Option Addr) (k c q : Nat) (w : World) (hq : q < w.heap.size) (hn : w.cell? ⟨q, 0, none⟩ = some (.int .u64 n)) :
    Calls Try.prog 54 #[.agg #[.int .u64 first, .slice A k c], .pointer (some ⟨q, 0, none⟩)] w fun e w' => e = .returned (.bool (decide (first ≤ n))) ∧ Below w.heap.size w w' := by
  go_enter Try.func54, Try.ntmps54
  go_wp2_with fail
  go_ret
  exact ⟨rfl, (Below.refl _ _).alloc (Nat.le_refl _) _⟩

set_option maxHeartbeats 1000000 in
theorem last_yes (first n : Int) (A : Option Addr) (k c q g o k1 : Nat) (w : World) (hf : FC w g o first A k c) (hg : g < w.heap.size) (hq : q < w.heap.size) (hn : w.cell? ⟨q, 0, none⟩ = some (.int .u64 n)) (hfn : first ≤ n) :
    Calls Try.prog 53 #[.slice (some ⟨g, o, none⟩) 1 k1, .func (.func 54) #[] #[.pointer (some ⟨q, 0, none⟩)]] w fun e w' =>
      e = .returned (.tuple #[.agg #[.int .u64 first, .slice A k c], .bool true]) ∧ Below w.heap.size w w' := by
  obtain ⟨f0, f1⟩ := hf
  have hd : decide (first ≤ n) = true := decide_eq_true hfn
  go_enter Try.func53, Try.ntmps53
  go_wp2
  go_loopw [5, 7, 10] (fun ok _ i wr => Below w.heap.size w wr ∧ ((i = .int .i64 0 ∧ ok = .bool false ∧ Blk wr w.heap.size 25 #[.int .u64 0, .slice none 0 0]) ∨ (i = .int .i64 1 ∧ ok = .bool true ∧ Blk wr w.heap.size 25 #[.int .u64 first, .slice A k c]))) (fun _ _ i _ => 1 - (intOf i).toNat)
  case atStart => exact ⟨(Below.refl _ _).alloc (Nat.le_refl _) _, .inl ⟨rfl, rfl, Blk.new _ _ _⟩⟩
  case round =>
    obtain ⟨hb, ⟨rfl, rfl, hk⟩ | ⟨rfl, rfl, hk⟩⟩ := hrel
    · have e0 : wr.cell? ⟨g, o, none⟩ = some (.int .u64 first) := (hb.cell (p := ⟨g, o, none⟩) hg).trans f0
      have e1 : wr.cell? ⟨g, o + 1, none⟩ = some (.slice A k c) := (hb.cell (p := ⟨g, o + 1, none⟩) hg).trans f1
      have e2 : wr.cell? ⟨q, 0, none⟩ = some (.int .u64 n) := (hb.cell (p := ⟨q, 0, none⟩) hq).trans hn
      have hsz := hb.size
      have hlt2 := hk.lt
      have hfr := hk.frozen
      obtain ⟨r0, r1⟩ := blk_cell2 hk
      have HK := Lib.hid hk
      clear hk
      go_wp2_with fail
      refine (fragIs_any first n A k c q _ (by simp; omega) (by rw [World.cell?_alloc_lt _ _ _ (by simp; omega)]; exact e2)).mono ?_
      rintro e w1 ⟨rfl, hb1⟩
      rw [hd]
      obtain ⟨hc1, hf1⟩ := bcell hb1
      have hz1 := hb1.size
      have hbb := (hb.alloc hb.size (.cells #[.int .u64 first, .slice A k c] 25)).trans (hb1.mono (by simp; omega))
      have HK1 := Lib.hid ((HK.out.alloc (.cells #[.int .u64 first, .slice A k c] 25)).below hb1 (by simp; omega))
      have hfk := HK1.out.frozen
      obtain ⟨k0, k1'⟩ := blk_cell2 HK1.out
      go_wp2_with fail
      go_roundw
      case rel => exact ⟨below_set2 hbb (Nat.le_refl _) _ _, .inr ⟨rfl, rfl, blk_set2 HK1.out _ _⟩⟩
      case measure => simp [intOf]
    · have hlt2 := hk.lt
      have hfk := hk.frozen
      obtain ⟨k0, k1'⟩ := blk_cell2 hk
      go_wp2_with fail
      refine bodyPost_ret (v := .tuple #[.agg #[.int .u64 first, .slice A k c], .bool true]) (by simp [results, Try.results53, go_sem, k0, k1']) rfl ⟨rfl, ?_⟩
      exact below_set2 hb (Nat.le_refl _) _ _

set_option maxHeartbeats 1000000 in
theorem last_no (first n : Int) (A : Option Addr) (k c q g o k1 : Nat) (w : World) (hf : FC w g o first A k c) (hg : g < w.heap.size) (hq : q < w.heap.size) (hn : w.cell? ⟨q, 0, none⟩ = some (.int .u64 n)) (hfn : ¬ first ≤ n) :
    Calls Try.prog 53 #[.slice (some ⟨g, o, none⟩) 1 k1, .func (.func 54) #[] #[.pointer (some ⟨q, 0, none⟩)]] w fun e w' =>
      e = .returned (.tuple #[.agg #[.int .u64 0, .slice none 0 0], .bool false]) ∧ Below w.heap.size w w' := by
  obtain ⟨f0, f1⟩ := hf
  have hd : decide (first ≤ n) = false := decide_eq_false hfn
  go_enter Try.func53, Try.ntmps53
  go_wp2
  go_loopw [5, 7, 10] (fun ok _ i wr => Below w.heap.size w wr ∧ ((i = .int .i64 0 ∧ ok = .bool false ∧ Blk wr w.heap.size 25 #[.int .u64 0, .slice none 0 0]) ∨ (i = .int .i64 1 ∧ ok = .bool false ∧ Blk wr w.heap.size 25 #[.int .u64 0, .slice none 0 0]))) (fun _ _ i _ => 1 - (intOf i).toNat)
  case atStart => exact ⟨(Below.refl _ _).alloc (Nat.le_refl _) _, .inl ⟨rfl, rfl, Blk.new _ _ _⟩⟩
  case round =>
    obtain ⟨hb, ⟨rfl, rfl, hk⟩ | ⟨rfl, rfl, hk⟩⟩ := hrel
    · have e0 : wr.cell? ⟨g, o, none⟩ = some (.int .u64 first) := (hb.cell (p := ⟨g, o, none⟩) hg).trans f0
      have e1 : wr.cell? ⟨g, o + 1, none⟩ = some (.slice A k c) := (hb.cell (p := ⟨g, o + 1, none⟩) hg).trans f1
      have e2 : wr.cell? ⟨q, 0, none⟩ = some (.int .u64 n) := (hb.cell (p := ⟨q, 0, none⟩) hq).trans hn
      have hsz := hb.size
      have hlt2 := hk.lt
      have hfr := hk.frozen
      obtain ⟨r0, r1⟩ := blk_cell2 hk
      have HK := Lib.hid hk
      clear hk
      go_wp2_with fail
      refine (fragIs_any first n A k c q _ (by simp; omega) (by rw [World.cell?_alloc_lt _ _ _ (by simp; omega)]; exact e2)).mono ?_
      rintro e w1 ⟨rfl, hb1⟩
      rw [hd]
      obtain ⟨hc1, hf1⟩ := bcell hb1
      have hz1 := hb1.size
      have hbb := (hb.alloc hb.size (.cells #[.int .u64 first, .slice A k c] 25)).trans (hb1.mono (by simp; omega))
      have HK1 := Lib.hid ((HK.out.alloc (.cells #[.int .u64 first, .slice A k c] 25)).below hb1 (by simp; omega))
      have hfk := HK1.out.frozen
      obtain ⟨k0, k1'⟩ := blk_cell2 HK1.out
      go_wp2_with fail
      go_roundw
      case rel => exact ⟨hbb, .inr ⟨rfl, rfl, HK1.out⟩⟩
      case measure => simp [intOf]
    · have hlt2 := hk.lt
      have hfk := hk.frozen
      obtain ⟨k0, k1'⟩ := blk_cell2 hk
      go_wp2_with fail
      refine bodyPost_ret (v := .tuple #[.agg #[.int .u64 0, .slice none 0 0], .bool false]) (by simp [results, Try.results53, go_sem, k0, k1']) rfl ⟨rfl, ?_⟩
      exact below_set2 hb (Nat.le_refl _) _ _


theorem clone_nil (w : World) : Calls Try.prog 35 #[.slice none 0 0] w fun e w' => e = .returned (.slice none 0 0) ∧ Below w.heap.size w w' := by
  have hE : ∀ W, (binOp .eql 23 (.slice none 0 0) (.slice none 0 0)).run Try.prog W = .ok (.bool true) W := fun _ => rfl
  go_enter Try.func35, Try.ntmps35
  go_wp2
  go_ret
  exact ⟨rfl, Below.refl _ _⟩

set_option maxHeartbeats 1000000 in
/-- The fragment that is so, its places cloned. -/
theorem frag_yes (first n : Int) (l : List Pl) (A : Option Addr) (c g o k1 : Nat) (w : World) (hf : FC w g o first A l.length c) (hp : PR w w.heap.size A l) (hg : g < w.heap.size) (hl : l.length ≤ 100000) (hfn : first ≤ n) :
    Calls Try.prog 45 #[.slice (some ⟨g, o, none⟩) 1 k1, .int .u64 n] w fun e w' => ∃ A' c', e = .returned (.tuple #[.agg #[.int .u64 first, .slice A' l.length c'], .bool true]) ∧ Below w.heap.size w w' ∧ l.length ≤ c' ∧ c' ≤ maxLen ∧ PR w' w'.heap.size A' l := by
  have hb0 := ((Below.refl w.heap.size w).alloc (Nat.le_refl _) (.cells #[.int .u64 n] 22)).alloc (by simp) (.cells #[.int .u64 0, .slice none 0 0] 25)
  have k0 := (Blk.new w 22 #[.int .u64 n]).alloc (.cells #[.int .u64 0, .slice none 0 0] 25)
  have kz := Blk.new (w.alloc (.cells #[.int .u64 n] 22)) 25 #[.int .u64 0, .slice none 0 0]
  have hf1 := hf.below hb0 hg
  have HP := Lib.hid hp
  clear hf hp
  go_enter Try.func45, Try.ntmps45
  go_wp2_with fail
  refine (last_yes first n A l.length c w.heap.size g o k1 _ hf1 (by simp; omega) (by simp; omega) (k0.cell 0) hfn).mono ?_
  rintro e w1 ⟨rfl, hb1⟩
  have hbb := hb0.trans (hb1.mono (by simp; omega))
  have k2 := (kz.below hb1 (by simp))
  rw [World.size_alloc] at k2
  have hz1 := k2.lt
  have r2 := k2.frozen
  obtain ⟨z0, z1⟩ := blk_cell2 k2
  have HK := Lib.hid k2
  have hsz := hbb.size
  clear k0 kz hf1 hb0 hb1 k2
  go_wp2_with fail
  refine (clone_any l A c w.heap.size _ ((HP.out.below hbb).alloc hbb.size _) (by simp; omega) hl).mono ?_
  rintro e w2 ⟨A', c', rfl, hb2, hc1, hc2, ho2⟩
  obtain ⟨hc2', hf2⟩ := bcell hb2
  have hz2 := hb2.size
  have hb3 := (hbb.alloc hbb.size (.cells #[.int .u64 first, .slice A l.length c] 25)).trans (hb2.mono (by simp; omega))
  have K2 := (HK.out.alloc (.cells #[.int .u64 first, .slice A l.length c] 25)).below hb2 (by simp; omega)
  have hlk := K2.lt
  have hfk2 := K2.frozen
  obtain ⟨y0, y1⟩ := blk_cell2 K2
  have HO2 := Lib.hid ho2
  clear hb2 hbb ho2 K2
  go_wp2_with fail
  refine bodyPost_ret (v := .tuple #[.agg #[.int .u64 first, .slice A' l.length c'], .bool true]) (by simp [results, Try.results45, go_sem, y0, y1]) rfl ⟨A', c', rfl, ?_, hc1, hc2, ?_⟩
  · exact below_set2 (hb3.setCell (p := ⟨w1.heap.size, 1, none⟩) hsz _) (by omega) _ _
  · exact Reads.of_own (ownsRow_setCell_below (ownsRow_setCell_below (ownsRow_setCell_below HO2.out (by simp) _) (a := ⟨w.heap.size + 1, 0, none⟩) (by simp; omega) _) (a := ⟨w.heap.size + 1, 1, none⟩) (by simp; omega) _)

set_option maxHeartbeats 1000000 in
/-- None is so: none. -/
theorem frag_no (first n : Int) (l : List Pl) (A : Option Addr) (c g o k1 : Nat) (w : World) (hf : FC w g o first A l.length c) (hg : g < w.heap.size) (hfn : ¬ first ≤ n) :
    Calls Try.prog 45 #[.slice (some ⟨g, o, none⟩) 1 k1, .int .u64 n] w fun e w' => e = .returned (.tuple #[.agg #[.int .u64 0, .slice none 0 0], .bool false]) ∧ Below w.heap.size w w' := by
  have hb0 := ((Below.refl w.heap.size w).alloc (Nat.le_refl _) (.cells #[.int .u64 n] 22)).alloc (by simp) (.cells #[.int .u64 0, .slice none 0 0] 25)
  have k0 := (Blk.new w 22 #[.int .u64 n]).alloc (.cells #[.int .u64 0, .slice none 0 0] 25)
  have kz := Blk.new (w.alloc (.cells #[.int .u64 n] 22)) 25 #[.int .u64 0, .slice none 0 0]
  have hf1 := hf.below hb0 hg
  clear hf
  go_enter Try.func45, Try.ntmps45
  go_wp2_with fail
  refine (last_no first n A l.length c w.heap.size g o k1 _ hf1 (by simp; omega) (by simp; omega) (k0.cell 0) (by omega)).mono ?_
  rintro e w1 ⟨rfl, hb1⟩
  have hbb := hb0.trans (hb1.mono (by simp; omega))
  have k2 := (kz.below hb1 (by simp))
  rw [World.size_alloc] at k2
  have hz1 := k2.lt
  have r2 := k2.frozen
  obtain ⟨z0, z1⟩ := blk_cell2 k2
  have HK := Lib.hid k2
  have hsz := hbb.size
  clear k0 kz hf1 hb0 hb1 k2
  go_wp2_with fail
  refine (clone_nil _).mono ?_
  rintro e w2 ⟨rfl, hb2⟩
  obtain ⟨hc2', hf2⟩ := bcell hb2
  have hz2 := hb2.size
  have hb3 := (hbb.alloc hbb.size (.cells #[.int .u64 0, .slice none 0 0] 25)).trans (hb2.mono (by simp; omega))
  have K2 := (HK.out.alloc (.cells #[.int .u64 0, .slice none 0 0] 25)).below hb2 (by simp; omega)
  have hlk := K2.lt
  have hfk2 := K2.frozen
  obtain ⟨y0, y1⟩ := blk_cell2 K2
  clear hb2 hbb K2
  go_wp2_with fail
  refine bodyPost_ret (v := .tuple #[.agg #[.int .u64 0, .slice none 0 0], .bool false]) (by simp [results, Try.results45, go_sem, y0, y1]) rfl ⟨rfl, ?_⟩
  exact below_set2 (hb3.setCell (p := ⟨w1.heap.size, 1, none⟩) hsz _) (by omega) _ _
end Go.Proofs.Ytcmidhecmhbeoaa
