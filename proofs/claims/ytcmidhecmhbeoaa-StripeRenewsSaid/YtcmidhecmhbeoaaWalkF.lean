/- Chapter 14: whether a node is among a row's, by a function: in Pick and in Renew. -/
import Derived.Test.YtcmidhecmhbeoaaWalkE
namespace Go.Proofs.Ytcmidhecmhbeoaa
open Go.RowKit

set_option maxHeartbeats 400000 in
theorem pickp_any (yn ys xn : Int) (q : Nat) (w : World) (hq : q < w.heap.size) (hx : w.cell? ⟨q, 0, none⟩ = some (.int .i64 xn)) :
    Calls Try.prog 50 #[.agg #[.int .i64 yn, .int .u64 ys], .pointer (some ⟨q, 0, none⟩)] w fun e w' => e = .returned (.bool (yn == xn)) ∧ Below w.heap.size w w' := by
  go_enter Try.func50, Try.ntmps50
  go_wp2_with fail
  go_ret
  exact ⟨rfl, (Below.refl _ _).alloc (Nat.le_refl _) _⟩

set_option maxHeartbeats 1000000 in
theorem pickidx_any (l : List Pl) (A : Option Addr) (cap : Nat) (xn : Int) (q : Nat) (B : Nat) (w : World) (h : PR w B A l) (hB : B ≤ w.heap.size) (hl : l.length ≤ 1000000) (hq : q < w.heap.size) (hx : w.cell? ⟨q, 0, none⟩ = some (.int .i64 xn)) :
    Calls Try.prog 52 #[.slice A l.length cap, .func (.func 50) #[] #[.pointer (some ⟨q, 0, none⟩)]] w fun e w' => e = .returned (.int .i64 (idxI (l.map (·.n)) xn)) ∧ Below w.heap.size w w' := by
  have h := h.more hB
  clear hB
  go_enter Try.func52, Try.ntmps52
  go_wp2
  go_loopw [5, 8] (fun i k wr => ∃ m : Nat, m ≤ l.length ∧ k = .int .i64 m ∧ xn ∉ (l.map (·.n)).take m ∧ Below w.heap.size w wr) (fun _ k _ => l.length - (intOf k).toNat)
  case atStart => exact ⟨0, Nat.zero_le _, rfl, by simp, Below.refl _ _⟩
  case round =>
    obtain ⟨m, hm, rfl, hn, hb⟩ := hrel
    by_cases hlt : m < l.length
    · obtain ⟨b, o, yn, ys, rfl, hB, hy, y0, y1⟩ := pl_elem (h.below hb) hlt
      have hq1 : wr.cell? ⟨q, 0, none⟩ = some (.int .i64 xn) := (hb.cell (p := ⟨q, 0, none⟩) hq).trans hx
      have hy' : (l.map (·.n))[m]? = some yn := by rw [List.getElem?_map, hy]; rfl
      have hts := take_snoc? hy'
      have hsz := hb.size
      have HN := Lib.hid hn
      have HY := Lib.hid hy'
      have HT := Lib.hid hts
      clear hn hy hts h hy'
      by_cases he : yn = xn
      · have he' : (yn == xn) = true := by simp [he]
        have HE := Lib.hid he
        clear he
        go_wp2_with fail
        refine (pickp_any yn ys xn q _ (by omega) hq1).mono ?_
        rintro e w1 ⟨rfl, hb1⟩
        rw [he']
        have hbb := hb.trans (hb1.mono hb.size)
        go_wp2_with fail
        go_ret
        exact ⟨ret_int (by rw [← HE.out]; exact (idxI_at HY.out (by rw [HE.out]; exact HN.out)).symm), hbb⟩
      · have he' : (yn == xn) = false := by simp [he]
        have HE := Lib.hid he
        clear he
        go_wp2_with fail
        refine (pickp_any yn ys xn q _ (by omega) hq1).mono ?_
        rintro e w1 ⟨rfl, hb1⟩
        rw [he']
        have hbb := hb.trans (hb1.mono hb.size)
        go_wp2_with fail
        go_roundw
        case rel => exact ⟨m + 1, by omega, by go_num, by rw [HT.out]; simp only [List.mem_append, List.mem_singleton, not_or]; exact ⟨HN.out, fun e => HE.out e.symm⟩, hbb⟩
        case measure => simp [intOf]; omega
    · have hml : (l.map (·.n)).take m = l.map (·.n) := by rw [List.take_of_length_le]; simp; omega
      rw [hml] at hn
      have HN := Lib.hid hn
      clear hn hml h
      go_wp2_with fail
      go_ret
      exact ⟨ret_int (by unfold idxI; rw [if_neg HN.out]), hb⟩

set_option maxHeartbeats 400000 in
theorem pickhas_any (l : List Pl) (A : Option Addr) (cap : Nat) (xn : Int) (q : Nat) (B : Nat) (w : World) (h : PR w B A l) (hB : B ≤ w.heap.size) (hl : l.length ≤ 1000000) (hq : q < w.heap.size) (hx : w.cell? ⟨q, 0, none⟩ = some (.int .i64 xn)) :
    Calls Try.prog 41 #[.slice A l.length cap, .func (.func 50) #[] #[.pointer (some ⟨q, 0, none⟩)]] w fun e w' => e = .returned (.bool (decide (xn ∈ l.map (·.n)))) ∧ Below w.heap.size w w' := by
  go_enter Try.func41, Try.ntmps41
  go_wp2_with (go_at_call 52; refine (pickidx_any l A cap xn q B _ h hB hl hq hx).mono ?_; rintro e w1 ⟨rfl, hb1⟩)
  go_ret
  exact ⟨ret_bool (by rw [← idxI_ge]), hb1⟩

set_option maxHeartbeats 400000 in
theorem renp_any (yn ys xn : Int) (q : Nat) (w : World) (hq : q < w.heap.size) (hx : w.cell? ⟨q, 0, none⟩ = some (.int .i64 xn)) :
    Calls Try.prog 42 #[.agg #[.int .i64 yn, .int .u64 ys], .pointer (some ⟨q, 0, none⟩)] w fun e w' => e = .returned (.bool (yn == xn)) ∧ Below w.heap.size w w' := by
  go_enter Try.func42, Try.ntmps42
  go_wp2_with fail
  go_ret
  exact ⟨rfl, (Below.refl _ _).alloc (Nat.le_refl _) _⟩

set_option maxHeartbeats 1000000 in
theorem renidx_any (l : List Pl) (A : Option Addr) (cap : Nat) (xn : Int) (q : Nat) (B : Nat) (w : World) (h : PR w B A l) (hB : B ≤ w.heap.size) (hl : l.length ≤ 1000000) (hq : q < w.heap.size) (hx : w.cell? ⟨q, 0, none⟩ = some (.int .i64 xn)) :
    Calls Try.prog 52 #[.slice A l.length cap, .func (.func 42) #[] #[.pointer (some ⟨q, 0, none⟩)]] w fun e w' => e = .returned (.int .i64 (idxI (l.map (·.n)) xn)) ∧ Below w.heap.size w w' := by
  have h := h.more hB
  clear hB
  go_enter Try.func52, Try.ntmps52
  go_wp2
  go_loopw [5, 8] (fun i k wr => ∃ m : Nat, m ≤ l.length ∧ k = .int .i64 m ∧ xn ∉ (l.map (·.n)).take m ∧ Below w.heap.size w wr) (fun _ k _ => l.length - (intOf k).toNat)
  case atStart => exact ⟨0, Nat.zero_le _, rfl, by simp, Below.refl _ _⟩
  case round =>
    obtain ⟨m, hm, rfl, hn, hb⟩ := hrel
    by_cases hlt : m < l.length
    · obtain ⟨b, o, yn, ys, rfl, hB, hy, y0, y1⟩ := pl_elem (h.below hb) hlt
      have hq1 : wr.cell? ⟨q, 0, none⟩ = some (.int .i64 xn) := (hb.cell (p := ⟨q, 0, none⟩) hq).trans hx
      have hy' : (l.map (·.n))[m]? = some yn := by rw [List.getElem?_map, hy]; rfl
      have hts := take_snoc? hy'
      have hsz := hb.size
      have HN := Lib.hid hn
      have HY := Lib.hid hy'
      have HT := Lib.hid hts
      clear hn hy hts h hy'
      by_cases he : yn = xn
      · have he' : (yn == xn) = true := by simp [he]
        have HE := Lib.hid he
        clear he
        go_wp2_with fail
        refine (renp_any yn ys xn q _ (by omega) hq1).mono ?_
        rintro e w1 ⟨rfl, hb1⟩
        rw [he']
        have hbb := hb.trans (hb1.mono hb.size)
        go_wp2_with fail
        go_ret
        exact ⟨ret_int (by rw [← HE.out]; exact (idxI_at HY.out (by rw [HE.out]; exact HN.out)).symm), hbb⟩
      · have he' : (yn == xn) = false := by simp [he]
        have HE := Lib.hid he
        clear he
        go_wp2_with fail
        refine (renp_any yn ys xn q _ (by omega) hq1).mono ?_
        rintro e w1 ⟨rfl, hb1⟩
        rw [he']
        have hbb := hb.trans (hb1.mono hb.size)
        go_wp2_with fail
        go_roundw
        case rel => exact ⟨m + 1, by omega, by go_num, by rw [HT.out]; simp only [List.mem_append, List.mem_singleton, not_or]; exact ⟨HN.out, fun e => HE.out e.symm⟩, hbb⟩
        case measure => simp [intOf]; omega
    · have hml : (l.map (·.n)).take m = l.map (·.n) := by rw [List.take_of_length_le]; simp; omega
      rw [hml] at hn
      have HN := Lib.hid hn
      clear hn hml h
      go_wp2_with fail
      go_ret
      exact ⟨ret_int (by unfold idxI; rw [if_neg HN.out]), hb⟩

set_option maxHeartbeats 400000 in
theorem renhas_any (l : List Pl) (A : Option Addr) (cap : Nat) (xn : Int) (q : Nat) (B : Nat) (w : World) (h : PR w B A l) (hB : B ≤ w.heap.size) (hl : l.length ≤ 1000000) (hq : q < w.heap.size) (hx : w.cell? ⟨q, 0, none⟩ = some (.int .i64 xn)) :
    Calls Try.prog 41 #[.slice A l.length cap, .func (.func 42) #[] #[.pointer (some ⟨q, 0, none⟩)]] w fun e w' => e = .returned (.bool (decide (xn ∈ l.map (·.n)))) ∧ Below w.heap.size w w' := by
  go_enter Try.func41, Try.ntmps41
  go_wp2_with (go_at_call 52; refine (renidx_any l A cap xn q B _ h hB hl hq hx).mono ?_; rintro e w1 ⟨rfl, hb1⟩)
  go_ret
  exact ⟨ret_bool (by rw [← idxI_ge]), hb1⟩
end Go.Proofs.Ytcmidhecmhbeoaa
