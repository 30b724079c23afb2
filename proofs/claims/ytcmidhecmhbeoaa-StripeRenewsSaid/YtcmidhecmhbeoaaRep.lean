/- Chapter 14: the first of known ones that can be is in the place of a bad one. -/
import Derived.Test.YtcmidhecmhbeoaaDelC
import Derived.Test.YtcmidhecmhbeoaaWalkQ
namespace Go.Proofs.Ytcmidhecmhbeoaa
open Go.RowKit

def repL (l : List Pl) (old : Pl) (known : List Pl) : Option (List Pl) := known.findSome? fun y => swapL l old y
theorem repL_at {l known r : List Pl} {old y : Pl} {j : Nat} (hy : known[j]? = some y) (hn : ∀ x ∈ known.take j, swapL l old x = none) (hs : swapL l old y = some r) : repL l old known = some r := by
  unfold repL
  obtain ⟨hj, rfl⟩ := List.getElem?_eq_some_iff.1 hy
  have h : known = known.take j ++ known[j] :: known.drop (j + 1) := by rw [← List.drop_eq_getElem_cons hj, List.take_append_drop]
  rw [h, List.findSome?_append, List.findSome?_eq_none_iff.2 hn, List.findSome?_cons, hs]
  rfl
theorem repL_no {l known : List Pl} {old : Pl} (hn : ∀ x ∈ known, swapL l old x = none) : repL l old known = none := List.findSome?_eq_none_iff.2 hn

def GivesR (w : World) (first : Int) (l : List Pl) (A : Option Addr) (c : Nat) (r : Option (List Pl)) (e : Ending) (w' : World) : Prop :=
  match r with
  | none => e = .returned (.tuple #[.agg #[.int .u64 first, .slice A l.length c], .bool false]) ∧ Below w.heap.size w w'
  | some l' => GivesF w first (some l') e w'

set_option maxHeartbeats 2000000 in
theorem replaced_any (first : Int) (old : Pl) (l known : List Pl) (A K : Option Addr) (c ck : Nat) (w : World) (h : PR w w.heap.size A l) (h2 : PR w w.heap.size K known) (hl : l.length ≤ 100000) (hk : known.length ≤ 100000) :
    Calls Try.prog 38 #[.agg #[.int .u64 first, .slice A l.length c], .agg #[.int .i64 old.n, .int .u64 old.s], .slice K known.length ck] w fun e w' => GivesR w first l A c (repL l old known) e w' := by
  have H := Lib.hid h
  have H2 := Lib.hid h2
  clear h h2
  obtain ⟨W0, hW0⟩ : ∃ W0, W0 = ((w.alloc (.cells #[.int .u64 first, .slice A l.length c] 25)).alloc (.cells #[.int .i64 old.n, .int .u64 old.s] 37)).alloc (.cells #[.int .u64 0, .slice none 0 0] 25) := ⟨_, rfl⟩
  have hb0 : Below w.heap.size w W0 := by rw [hW0]; exact (((Below.refl _ _).alloc (Nat.le_refl _) _).alloc (by simp) _).alloc (by simp; omega) _
  have hF : Blk W0 w.heap.size 25 #[.int .u64 first, .slice A l.length c] := by rw [hW0]; exact ((Blk.new _ _ _).alloc _).alloc _
  have hO : Blk W0 (w.heap.size + 1) 37 #[.int .i64 old.n, .int .u64 old.s] := by rw [hW0]; exact (blk_newAt (by simp) _ _).alloc _
  have hR : Blk W0 (w.heap.size + 1 + 1) 25 #[.int .u64 0, .slice none 0 0] := by rw [hW0]; exact blk_newAt (by simp) _ _
  have HF := Lib.hid hF
  have HO := Lib.hid hO
  have HR := Lib.hid hR
  have hFl := hF.lt
  have hOl := hO.lt
  have hRl := hR.lt
  clear hF hO hR
  go_enter Try.func38, Try.ntmps38
  go_wp2_with fail
  rw [← hW0]
  have hs0 : W0.heap.size = w.heap.size + 1 + 1 + 1 := by rw [hW0]; simp
  clear hW0
  go_loopw [9, 10, 11, 14] (fun _ _ _ i wr => ∃ j : Nat, j ≤ known.length ∧ i = .int .i64 j ∧ (∀ x ∈ known.take j, swapL l old x = none) ∧ Below W0.heap.size W0 wr) (fun _ _ _ i _ => known.length - (intOf i).toNat)
  case atStart => exact ⟨0, Nat.zero_le _, rfl, by simp, Below.refl _ _⟩
  case round =>
    obtain ⟨j, hj, rfl, hn, hbr⟩ := hrel
    have hbw := hb0.trans (hbr.mono hb0.size)
    have hszr := hbr.size
    have HN := Lib.hid hn
    have kR := HR.out.below hbr hRl
    have kF := HF.out.below hbr hFl
    obtain ⟨d0, d1⟩ := blk_cell2 kR
    have dl := kR.lt
    have df := kR.frozen
    clear hn
    by_cases hlt : j < known.length
    · obtain ⟨b, o, yn, ys, rfl, hB, hy, y0, y1⟩ := pl_elem (H2.out.below hbw) hlt
      have hts := take_snoc? hy
      have HY := Lib.hid hy
      have HT := Lib.hid hts
      obtain ⟨f0, f1⟩ := blk_cell2 kF
      obtain ⟨o0, o1⟩ := blk_cell2 (HO.out.below hbr hOl)
      have fl := kF.lt
      have ol := (HO.out.below hbr hOl).lt
      clear hy hts kR kF
      go_wp2_with fail
      have hba : Below wr.heap.size wr (wr.alloc (.cells #[.int .i64 yn, .int .u64 ys] 37)) := (Below.refl _ _).alloc (Nat.le_refl _) _
      have hbwa := hbw.trans (hba.mono hbw.size)
      have C := Lib.hid (swap_any first old.n old.s yn ys l A c _ (wr.alloc (.cells #[.int .i64 yn, .int .u64 ys] 37)) ((H.out.below hbwa).more hbwa.size) (Nat.le_refl _) hl)
      clear f0 f1 o0 o1 fl ol y0 y1
      refine C.out.mono ?_
      intro e w5 hg
      have hbase : (wr.alloc (.cells #[.int .i64 yn, .int .u64 ys] 37)).heap.size = wr.heap.size + 1 := by simp
      cases hsw : swapL l old ⟨yn, ys⟩ with
      | none =>
        rw [show swapL l ⟨old.n, old.s⟩ ⟨yn, ys⟩ = none from hsw] at hg
        obtain ⟨rfl, hb5⟩ := hg
        have hb05 := hbr.trans ((hba.trans (hb5.mono hba.size)).mono hbr.size)
        have HN' : Hid (∀ x ∈ known.take (j + 1), swapL l old x = none) := Lib.hid (by
          rw [HT.out]
          intro x hx
          rcases List.mem_append.1 hx with hx | hx
          · exact HN.out x hx
          · rw [List.mem_singleton.1 hx]; exact hsw)
        clear hsw C d0 d1 dl df hba hbwa hb5 hbase
        go_wp2_with fail
        go_roundw
        case rel => exact ⟨j + 1, by omega, by go_num, HN'.out, hb05.alloc (by have := hb05.size; omega) _⟩
        case measure => simp [intOf]; omega
      | some l' =>
        rw [show swapL l ⟨old.n, old.s⟩ ⟨yn, ys⟩ = some l' from hsw] at hg
        obtain ⟨A', c', rfl, hb5, hc1, hc2, ho5⟩ := hg
        have hb05 := hbr.trans ((hba.trans (hb5.mono hba.size)).mono hbr.size)
        have hbw5 := hb0.trans (hb05.mono hb0.size)
        have HRP := Lib.hid (repL_at HY.out HN.out hsw)
        have kR5 := HR.out.below hb05 hRl
        obtain ⟨d0', d1'⟩ := blk_cell2 kR5
        have dl' := kR5.lt
        have df' := kR5.frozen
        have HO5 := Lib.hid ho5
        clear hsw C d0 d1 dl df hba hbwa ho5
        go_wp2_with fail
        rw [HRP.out]
        refine bodyPost_ret (v := .tuple #[.agg #[.int .u64 first, .slice A' l'.length c'], .bool true]) (by simp [results, Try.results38, go_sem, d0', d1', dl']) rfl ?_
        have o1 := ownsRow_setCell_below HO5.out (a := ⟨w.heap.size + 1 + 1, 0, none⟩) (by rw [hbase]; show w.heap.size + 1 + 1 < wr.heap.size + 1; omega) (.int .u64 first)
        have o2 := ownsRow_setCell_below o1 (a := ⟨w.heap.size + 1 + 1, 1, none⟩) (by rw [hbase]; show w.heap.size + 1 + 1 < wr.heap.size + 1; omega) (.slice A' l'.length c')
        refine ⟨A', c', rfl, (below_set2 hbw5 (by omega) _ _).alloc (by simp only [size_setCell]; exact hbw5.size) _, hc1, hc2, own_low (o2.alloc _) (by rw [hbase]; omega)⟩
    · have hjl : j = known.length := by omega
      subst hjl
      have hkn : known.take known.length = known := List.take_of_length_le (Nat.le_refl _)
      have HRP := Lib.hid (repL_no (l := l) (known := known) (old := old) (by rw [← hkn]; exact HN.out))
      obtain ⟨f0, f1⟩ := blk_cell2 kF
      have fl := kF.lt
      clear hkn kR kF
      go_wp2_with fail
      rw [HRP.out]
      refine bodyPost_ret (v := .tuple #[.agg #[.int .u64 first, .slice A l.length c], .bool false]) (by simp [results, Try.results38, go_sem, d0, d1]) rfl ?_
      exact ⟨rfl, below_set2 hbw (by omega) _ _⟩
end Go.Proofs.Ytcmidhecmhbeoaa
