/- Chapter 14: the known places that are not bad (slices.DeleteFunc, on a row of the call's own). -/
import Derived.Test.YtcmidhecmhbeoaaWalkP
import Derived.Laws.CopyRow
namespace Go.Proofs.Ytcmidhecmhbeoaa
open Go.RowKit

set_option maxHeartbeats 1000000 in
theorem del1_any (yn ys : Int) (bad : List Pl) (A2 : Option Addr) (c2 q : Nat) (w : World) (hq : q < w.heap.size) (hx : w.cell? ⟨q, 0, none⟩ = some (.slice A2 bad.length c2)) (h2 : PR w w.heap.size A2 bad) (hl : bad.length ≤ 100000) :
    Calls Try.prog 36 #[.agg #[.int .i64 yn, .int .u64 ys], .pointer (some ⟨q, 0, none⟩)] w fun e w' => e = .returned (.bool (decide ((⟨yn, ys⟩ : Pl) ∈ bad))) ∧ Below w.heap.size w w' := by
  have H2 := Lib.hid h2
  clear h2
  have hb : Below w.heap.size w (w.alloc (.cells #[.int .i64 yn, .int .u64 ys] 37)) := (Below.refl _ _).alloc (Nat.le_refl _) _
  go_enter Try.func36, Try.ntmps36
  go_wp2_with fail
  refine (contains_any bad A2 c2 yn ys _ _ ((H2.out.below hb).more hb.size) (Nat.le_refl _) (by omega)).mono ?_
  rintro e w1 ⟨rfl, hb1⟩
  go_wp2_with fail
  go_ret
  exact ⟨rfl, hb.trans (hb1.mono hb.size)⟩

/-- The first one that is bad; below 0: none. -/
def idxB (l bad : List Pl) : Int := if l.any (fun x => decide (x ∈ bad)) then (l.findIdx fun x => decide (x ∈ bad) : Nat) else -1
theorem idxB_at {l bad : List Pl} {m : Nat} {x : Pl} (h : l[m]? = some x) (hx : x ∈ bad) (hn : ∀ y ∈ l.take m, y ∉ bad) : idxB l bad = m := by
  obtain ⟨hm, rfl⟩ := List.getElem?_eq_some_iff.1 h
  unfold idxB
  rw [if_pos (List.any_eq_true.2 ⟨l[m], List.getElem_mem hm, by simpa using hx⟩)]
  congr 1
  refine (List.findIdx_eq hm).2 ⟨by simpa using hx, fun j hj => ?_⟩
  have : l[j] ∈ l.take m := by
    rw [List.mem_take_iff_getElem]
    exact ⟨j, by omega, rfl⟩
  simpa using hn _ this
theorem idxB_no {l bad : List Pl} (hn : ∀ y ∈ l, y ∉ bad) : idxB l bad = -1 := by
  unfold idxB
  rw [if_neg]
  rw [List.any_eq_true]
  rintro ⟨x, hx, hb⟩
  exact hn x hx (by simpa using hb)

set_option maxHeartbeats 1000000 in
theorem delidx_any (l bad : List Pl) (A A2 : Option Addr) (cap c2 q : Nat) (w : World) (h : PR w w.heap.size A l) (hl : l.length ≤ 100000) (hq : q < w.heap.size) (hx : w.cell? ⟨q, 0, none⟩ = some (.slice A2 bad.length c2)) (h2 : PR w w.heap.size A2 bad) (hl2 : bad.length ≤ 100000) :
    Calls Try.prog 52 #[.slice A l.length cap, .func (.func 36) #[] #[.pointer (some ⟨q, 0, none⟩)]] w fun e w' => e = .returned (.int .i64 (idxB l bad)) ∧ Below w.heap.size w w' := by
  have H2 := Lib.hid h2
  clear h2
  go_enter Try.func52, Try.ntmps52
  go_wp2
  go_loopw [5, 8] (fun i k wr => ∃ m : Nat, m ≤ l.length ∧ k = .int .i64 m ∧ (∀ y ∈ l.take m, y ∉ bad) ∧ Below w.heap.size w wr) (fun _ k _ => l.length - (intOf k).toNat)
  case atStart => exact ⟨0, Nat.zero_le _, rfl, by simp, Below.refl _ _⟩
  case round =>
    obtain ⟨m, hm, rfl, hn, hb⟩ := hrel
    by_cases hlt : m < l.length
    · obtain ⟨b, o, yn, ys, rfl, hB, hy, y0, y1⟩ := pl_elem (h.below hb) hlt
      have hq1 : wr.cell? ⟨q, 0, none⟩ = some (.slice A2 bad.length c2) := (hb.cell (p := ⟨q, 0, none⟩) hq).trans hx
      have hts := take_snoc? hy
      have hsz := hb.size
      have C := Lib.hid (del1_any yn ys bad A2 c2 q wr (by omega) hq1 ((H2.out.below hb).more hb.size) hl2)
      have HN := Lib.hid hn
      have HY := Lib.hid hy
      have HT := Lib.hid hts
      clear hn hy hts h hq1
      by_cases he : (⟨yn, ys⟩ : Pl) ∈ bad
      · rw [decide_eq_true he] at C
        have HE := Lib.hid he
        clear he
        go_wp2_with fail
        refine C.out.mono ?_
        rintro e w1 ⟨rfl, hb1⟩
        have hbb := hb.trans (hb1.mono hb.size)
        go_wp2_with fail
        go_ret
        exact ⟨ret_int (idxB_at HY.out HE.out HN.out).symm, hbb⟩
      · rw [decide_eq_false he] at C
        have HE := Lib.hid he
        clear he
        go_wp2_with fail
        refine C.out.mono ?_
        rintro e w1 ⟨rfl, hb1⟩
        have hbb := hb.trans (hb1.mono hb.size)
        have HN' : Hid (∀ y ∈ l.take (m + 1), y ∉ bad) := Lib.hid (by
          rw [HT.out]
          intro y hy
          rcases List.mem_append.1 hy with hy | hy
          · exact HN.out y hy
          · rw [List.mem_singleton.1 hy]; exact HE.out)
        go_wp2_with fail
        go_roundw
        case rel => exact ⟨m + 1, by omega, by go_num, HN'.out, hbb⟩
        case measure => simp [intOf]; omega
    · have hml : l.take m = l := by rw [List.take_of_length_le]; omega
      rw [hml] at hn
      have HN := Lib.hid hn
      clear hn hml h
      go_wp2_with fail
      go_ret
      exact ⟨ret_int (idxB_no HN.out).symm, hb⟩

/-- clear of the tail of a row. -/
theorem clear_row {w : World} {base g n cap i : Nat} {xs : List Value} (h : w.ownsRow base 37 2 (.slice (some ⟨g, 0, none⟩) n cap) n xs) (hi : i ≤ n) (c : Nat) :
    ∃ w', (∀ ty, (Builtin.clear_ #[23] ty #[.slice (some ⟨g, i * 2, none⟩) (n - i) c]).run Try.prog w = .ok (.tuple #[]) w') ∧ w'.ownsRow base 37 2 (.slice (some ⟨g, 0, none⟩) i cap) i (xs.take (i * 2)) ∧ Below base w w' := by
  obtain ⟨h1, h2⟩ := h
  rcases h2 with ⟨h2, _⟩ | ⟨g', cap', cur, h2, hb, hg, hn, hcm, hcs, htk⟩
  · cases h2
  · simp only [Value.slice.injEq, Option.some.injEq, Addr.mk.injEq, and_true, true_and] at h2
    obtain ⟨rfl, rfl⟩ := h2
    have hxl : (xs.take (i * 2)).length = i * 2 := by rw [List.length_take]; omega
    have hgl : g < w.heap.size := (Array.getElem?_eq_some_iff.1 hg).1
    rcases Nat.eq_zero_or_pos (n - i) with h0 | h0
    · have hin : i = n := by omega
      subst hin
      refine ⟨w, fun ty => ?_, ⟨hxl, .inr ⟨g, cap, cur, rfl, hb, hg, hn, hcm, hcs, ?_⟩⟩, Below.refl _ _⟩
      · rw [h0]; simp [Builtin.clear_, run_underlying Try.underlying23]
      · rw [htk, List.take_of_length_le (by omega)]
    · obtain ⟨zs, hzs⟩ : ∃ zs, zs = (Builtin.zeroCells (Value.agg #[.int .i64 0, .int .u64 0]).cells (n - i)).toList := ⟨_, rfl⟩
      have hzl : zs.length = (n - i) * 2 := by rw [hzs]; simp [Builtin.zeroCells, Value.cells]
      have hz1 : ∀ v ∈ zs, v.oneCell' = true := by
        rw [hzs]
        intro v hv
        simp only [Builtin.zeroCells, Value.cells, Array.toList_map, List.mem_map] at hv
        obtain ⟨i, _, rfl⟩ := hv
        have : i % 2 < 2 := Nat.mod_lt _ (by omega)
        change ((#[Value.int .i64 0, Value.int .u64 0])[i % 2]!).oneCell' = true
        match i % 2, this with
        | 0, _ => rfl
        | 1, _ => rfl
      have hst := run_storeCells_at Try.prog g (i * 2) 37 zs 0 cur w hg (by rw [hzl, hcs]; omega) hz1
      simp only [Nat.add_zero] at hst
      obtain ⟨nw, hnw⟩ : ∃ nw, nw = (List.take (i * 2) cur.toList ++ zs ++ List.drop (i * 2 + zs.length) cur.toList).toArray := ⟨_, rfl⟩
      rw [← hnw] at hst
      refine ⟨w.setRow g nw, fun ty => ?_, ⟨hxl, .inr ⟨g, cap, nw, rfl, hb, setRow_heap w g cur _ 37 _ hg, by omega, hcm, ?_, ?_⟩⟩, ?_⟩
      · obtain ⟨k, hk⟩ : ∃ k, n - i = k + 1 := ⟨n - i - 1, by omega⟩
        rw [hzs] at hst
        rw [hk] at hst ⊢
        simp [Builtin.clear_, run_underlying Try.underlying23, hst, Result.andThen]
      · rw [hnw]
        simp only [List.size_toArray, List.length_append, List.length_take, List.length_drop, Array.length_toList]
        omega
      · rw [hnw]
        have : (cur.toList.take (i * 2)).length = i * 2 := by rw [List.length_take, Array.length_toList]; omega
        rw [List.append_assoc, List.take_append_of_le_length (by omega), List.take_of_length_le (by omega), ← htk, List.take_take]
        congr 1
        omega
      · exact (Below.refl base w).grown (row := some g) ⟨rfl, rfl, rfl, by simp, fun k _ hk => setRow_other w g k _ (fun e => hk (by simp [e]))⟩ (by omega) (fun k e => by cases e; exact hb)
end Go.Proofs.Ytcmidhecmhbeoaa
