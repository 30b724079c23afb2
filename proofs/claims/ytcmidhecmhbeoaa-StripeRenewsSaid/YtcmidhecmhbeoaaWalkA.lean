/- Chapter 14, what the searching functions compute: Index, Contains, Has, Same, node. -/
import Derived.Test.YtcmidhecmhbeoaaPlain
namespace Go.Proofs.Ytcmidhecmhbeoaa
open Go.RowKit

set_option maxHeartbeats 1000000 in
theorem index_any (l : List Pl) (A : Option Addr) (cap : Nat) (xn xs : Int) (B : Nat) (w : World) (h : PR w B A l) (hB : B ≤ w.heap.size) (hl : l.length ≤ 1000000) :
    Calls Try.prog 39 #[.slice A l.length cap, .agg #[.int .i64 xn, .int .u64 xs]] w fun e w' => e = .returned (.int .i64 (idxP l ⟨xn, xs⟩)) ∧ Below w.heap.size w w' := by
  have h := h.more hB
  clear hB
  go_enter Try.func39, Try.ntmps39
  go_wp2
  go_loopw [5, 8] (fun i k wr => ∃ m : Nat, m ≤ l.length ∧ k = .int .i64 m ∧ (⟨xn, xs⟩ : Pl) ∉ l.take m ∧ Blk wr w.heap.size 37 #[.int .i64 xn, .int .u64 xs] ∧ Below w.heap.size w wr) (fun _ k _ => l.length - (intOf k).toNat)
  case atStart => exact ⟨0, Nat.zero_le _, rfl, by simp, Blk.new _ _ _, (Below.refl _ _).alloc (Nat.le_refl _) _⟩
  case round =>
    obtain ⟨m, hm, rfl, hn, hk, hb⟩ := hrel
    have hlt2 := hk.lt
    have c0 := hk.cell 0
    have c1 := hk.cell 1
    simp at c0 c1
    by_cases hlt : m < l.length
    · obtain ⟨b, o, yn, ys, rfl, hB, hy, y0, y1⟩ := pl_elem (h.below hb) hlt
      have hts := take_snoc? hy
      have hE := run_eqP xn xs yn ys
      have HN := Lib.hid hn
      have HY := Lib.hid hy
      have HT := Lib.hid hts
      have HK := Lib.hid hk
      clear hn hy hts hk h
      by_cases he : (⟨xn, xs⟩ : Pl) = ⟨yn, ys⟩
      · rw [decide_eq_true he] at hE
        have HE := Lib.hid he
        clear he
        go_wp2_with fail
        go_quiet (fail)
        go_wp2_with fail
        go_ret
        exact ⟨ret_int (by rw [HE.out]; exact (idxP_at HY.out (by rw [← HE.out]; exact HN.out)).symm), belowN hb _⟩
      · rw [decide_eq_false he] at hE
        have HE := Lib.hid he
        clear he
        go_wp2_with fail
        go_quiet (fail)
        go_wp2_with fail
        go_roundw
        case rel => exact ⟨m + 1, by omega, by go_num, by rw [HT.out]; simp only [List.mem_append, List.mem_singleton, not_or]; exact ⟨HN.out, HE.out⟩, HK.out.drewN _, belowN hb _⟩
        case measure => simp [intOf]; omega
    · have hml : l.take m = l := by rw [List.take_of_length_le]; omega
      rw [hml] at hn
      have HN := Lib.hid hn
      clear hn hml h hk
      go_wp2_with fail
      go_ret
      exact ⟨ret_int (by unfold idxP; rw [if_neg HN.out]), hb⟩

set_option maxHeartbeats 400000 in
theorem indexI_any (l : List Int) (A : Option Addr) (cap : Nat) (x : Int) (B : Nat) (w : World) (h : Reads w B 1 A l.length (l.map (.int .i64))) (hl : l.length ≤ 1000000) :
    Calls Try.prog 57 #[.slice A l.length cap, .int .i64 x] w fun e w' => e = .returned (.int .i64 (idxI l x)) ∧ w = w' := by
  go_enter Try.func57, Try.ntmps57
  go_wp2
  go_loop [5, 8] (fun i k => ∃ m : Nat, m ≤ l.length ∧ k = .int .i64 m ∧ x ∉ l.take m) (fun _ k => l.length - (intOf k).toNat)
  case atStart => exact ⟨0, Nat.zero_le _, rfl, by simp⟩
  case round =>
    obtain ⟨m, hm, rfl, hn⟩ := hrel
    by_cases hlt : m < l.length
    · obtain ⟨b, o, rfl, hB, hc⟩ := h.lit (by simp; omega)
      obtain ⟨y, hy⟩ : ∃ y, l[m]? = some y := ⟨_, List.getElem?_eq_getElem hlt⟩
      have y0 := hc m _ (by rw [List.getElem?_map, hy]; rfl)
      have hts := take_snoc? hy
      have HN := Lib.hid hn
      have HY := Lib.hid hy
      have HT := Lib.hid hts
      clear hc h hn hy hts
      by_cases he : x = y
      · have hd : (x == y) = true := by simp [he]
        have HE := Lib.hid he
        clear he
        go_wp2_with fail
        go_ret
        exact ⟨ret_int (by rw [HE.out]; exact (idxI_at HY.out (by rw [← HE.out]; exact HN.out)).symm), rfl⟩
      · have hd : (x == y) = false := by simp [he]
        have HE := Lib.hid he
        clear he
        go_wp2_with fail
        go_round
        case rel => exact ⟨m + 1, by omega, by go_num, by rw [HT.out]; simp only [List.mem_append, List.mem_singleton, not_or]; exact ⟨HN.out, HE.out⟩⟩
        case measure => simp [intOf]; omega
    · have hml : l.take m = l := by rw [List.take_of_length_le]; omega
      rw [hml] at hn
      have HN := Lib.hid hn
      clear hml h hn
      go_wp2
      go_ret
      exact ⟨ret_int (by unfold idxI; rw [if_neg HN.out]), rfl⟩

set_option maxHeartbeats 400000 in
theorem containsI_any (l : List Int) (A : Option Addr) (cap : Nat) (x : Int) (B : Nat) (w : World) (h : Reads w B 1 A l.length (l.map (.int .i64))) (hl : l.length ≤ 1000000) :
    Calls Try.prog 51 #[.slice A l.length cap, .int .i64 x] w fun e w' => e = .returned (.bool (decide (x ∈ l))) ∧ w = w' := by
  go_enter Try.func51, Try.ntmps51
  go_wp2_with (go_at_call 57; refine (indexI_any l A cap x B _ h hl).mono ?_; rintro e w' ⟨rfl, rfl⟩)
  go_ret
  exact ⟨ret_bool (by rw [← idxI_ge]), rfl⟩

set_option maxHeartbeats 400000 in
theorem contains_any (l : List Pl) (A : Option Addr) (cap : Nat) (xn xs : Int) (B : Nat) (w : World) (h : PR w B A l) (hB : B ≤ w.heap.size) (hl : l.length ≤ 1000000) :
    Calls Try.prog 37 #[.slice A l.length cap, .agg #[.int .i64 xn, .int .u64 xs]] w fun e w' => e = .returned (.bool (decide ((⟨xn, xs⟩ : Pl) ∈ l))) ∧ Below w.heap.size w w' := by
  have H := Lib.hid h
  clear h
  go_enter Try.func37, Try.ntmps37
  go_wp2_with fail
  refine (index_any l A cap xn xs B _ (H.out.alloc hB _) (by simp; omega) hl).mono ?_
  rintro e w1 ⟨rfl, hb1⟩
  have hb2 := ((Below.refl w.heap.size w).alloc (Nat.le_refl _) _).trans (hb1.mono (by simp))
  go_wp2_with fail
  go_ret
  exact ⟨ret_bool (by rw [← idxP_ge]), hb2⟩

set_option maxHeartbeats 1000000 in
theorem has_any (l : List Pl) (A : Option Addr) (cap : Nat) (xn xs : Int) (B : Nat) (w : World) (h : PR w B A l) (hB : B ≤ w.heap.size) (hl : l.length ≤ 1000000) :
    Calls Try.prog 17 #[.slice A l.length cap, .agg #[.int .i64 xn, .int .u64 xs]] w fun e w' => e = .returned (.bool (decide ((⟨xn, xs⟩ : Pl) ∈ l))) ∧ Below w.heap.size w w' := by
  have h := h.more hB
  clear hB
  go_enter Try.func17, Try.ntmps17
  go_wp2
  go_loopw [5] (fun k wr => ∃ m : Nat, m ≤ l.length ∧ k = .int .i64 m ∧ (⟨xn, xs⟩ : Pl) ∉ l.take m ∧ Blk wr w.heap.size 37 #[.int .i64 xn, .int .u64 xs] ∧ Below w.heap.size w wr) (fun k _ => l.length - (intOf k).toNat)
  case atStart => exact ⟨0, Nat.zero_le _, rfl, by simp, Blk.new _ _ _, (Below.refl _ _).alloc (Nat.le_refl _) _⟩
  case round =>
    obtain ⟨m, hm, rfl, hn, hk, hb⟩ := hrel
    have hlt2 := hk.lt
    have c0 := hk.cell 0
    have c1 := hk.cell 1
    simp at c0 c1
    by_cases hlt : m < l.length
    · obtain ⟨b, o, yn, ys, rfl, hB, hy, y0, y1⟩ := pl_elem (h.below hb) hlt
      have hts := take_snoc? hy
      have hE := run_eqP yn ys xn xs
      have HN := Lib.hid hn
      have HY := Lib.hid hy
      have HT := Lib.hid hts
      have HK := Lib.hid hk
      clear hn hy hts hk h
      by_cases he : (⟨yn, ys⟩ : Pl) = ⟨xn, xs⟩
      · rw [decide_eq_true he] at hE
        have HE := Lib.hid he
        clear he
        go_wp2_with fail
        go_quiet (fail)
        go_wp2_with fail
        go_ret
        exact ⟨ret_bool (by rw [← HE.out]; exact (decide_eq_true (List.mem_of_getElem? HY.out)).symm), belowN hb _⟩
      · rw [decide_eq_false he] at hE
        have HE := Lib.hid he
        clear he
        go_wp2_with fail
        go_quiet (fail)
        go_wp2_with fail
        go_roundw
        case rel => exact ⟨m + 1, by omega, by go_num, by rw [HT.out]; simp only [List.mem_append, List.mem_singleton, not_or]; exact ⟨HN.out, fun e => HE.out e.symm⟩, HK.out.drewN _, belowN hb _⟩
        case measure => simp [intOf]; omega
    · have hml : l.take m = l := by rw [List.take_of_length_le]; omega
      rw [hml] at hn
      have HN := Lib.hid hn
      clear hn hml h hk
      go_wp2_with fail
      go_ret
      exact ⟨ret_bool (decide_eq_false HN.out).symm, hb⟩

theorem ne_of_at {l r : List Pl} {m : Nat} {x y : Pl} (hx : l[m]? = some x) (hy : r[m]? = some y) (h : x ≠ y) : l ≠ r := by
  rintro rfl
  rw [hx] at hy
  exact h (Option.some.inj hy)

set_option maxHeartbeats 1000000 in
theorem same_any (l r : List Pl) (A A2 : Option Addr) (cap cap2 : Nat) (B : Nat) (w : World) (h : PR w B A l) (h2 : PR w B A2 r) (hB : B ≤ w.heap.size) (hl : l.length ≤ 1000000) :
    Calls Try.prog 21 #[.slice A l.length cap, .slice A2 r.length cap2] w fun e w' => e = .returned (.bool (decide (l = r))) ∧ Below w.heap.size w w' := by
  have h := h.more hB
  have h2 := h2.more hB
  clear hB
  by_cases hlen : l.length = r.length
  · go_enter Try.func21, Try.ntmps21
    go_wp2
    go_loopw [5] (fun k wr => ∃ m : Nat, m ≤ l.length ∧ k = .int .i64 m ∧ l.take m = r.take m ∧ Below w.heap.size w wr) (fun k _ => l.length - (intOf k).toNat)
    case atStart => exact ⟨0, Nat.zero_le _, rfl, by simp, Below.refl _ _⟩
    case round =>
      obtain ⟨m, hm, rfl, hn, hb⟩ := hrel
      by_cases hlt : m < l.length
      · obtain ⟨b, o, yn, ys, rfl, hB, hy, y0, y1⟩ := pl_elem (h.below hb) hlt
        obtain ⟨b2, o2, zn, zs, rfl, hB2, hz, z0, z1⟩ := pl_elem (h2.below hb) (show m < r.length by omega)
        have hs := hb.size
        have hts := take_snoc? hy
        have htz := take_snoc? hz
        have hE := run_neP yn ys zn zs
        have HN := Lib.hid hn
        have HY := Lib.hid hy
        have HZ := Lib.hid hz
        have HT := Lib.hid hts
        have HT2 := Lib.hid htz
        clear hn hy hts hz htz h h2
        by_cases he : (⟨yn, ys⟩ : Pl) = ⟨zn, zs⟩
        · rw [decide_eq_true he] at hE
          have HE := Lib.hid he
          clear he
          go_wp2_with fail
          go_quiet (fail)
          go_wp2_with fail
          go_roundw
          case rel => exact ⟨m + 1, by omega, by go_num, by rw [HT.out, HT2.out, HN.out, HE.out], belowN hb _⟩
          case measure => simp [intOf]; omega
        · rw [decide_eq_false he] at hE
          have HE := Lib.hid he
          clear he
          go_wp2_with fail
          go_quiet (fail)
          go_wp2_with fail
          go_ret
          exact ⟨ret_bool (decide_eq_false (ne_of_at HY.out HZ.out HE.out)).symm, belowN hb _⟩
      · have hml : l.take m = l := by rw [List.take_of_length_le]; omega
        have hmr : r.take m = r := by rw [List.take_of_length_le]; omega
        rw [hml, hmr] at hn
        have HN := Lib.hid hn
        clear hn hml hmr h h2
        go_wp2_with fail
        go_ret
        exact ⟨ret_bool (decide_eq_true HN.out).symm, hb⟩
  · have HL := Lib.hid hlen
    have hd : (l.length : Int) ≠ r.length := by omega
    clear hlen h h2
    go_enter Try.func21, Try.ntmps21
    go_wp2_with fail
    go_ret
    exact ⟨ret_bool (decide_eq_false (fun e => HL.out (by rw [e]))).symm, Below.refl _ _⟩

/-- Is a node among others' but one? -/
def nodeB (l : List Pl) (n b : Int) : Bool := decide (∃ k : Nat, k < l.length ∧ (k : Int) ≠ b ∧ (l[k]?).map (·.n) = some n)

set_option maxHeartbeats 1000000 in
theorem node_any (l : List Pl) (A : Option Addr) (cap : Nat) (n bt : Int) (B : Nat) (w : World) (h : PR w B A l) (hl : l.length ≤ 1000000) :
    Calls Try.prog 43 #[.slice A l.length cap, .int .i64 n, .int .i64 bt] w fun e w' => e = .returned (.bool (nodeB l n bt)) ∧ w = w' := by
  go_enter Try.func43, Try.ntmps43
  go_wp2
  go_loop [7] (fun k => ∃ m : Nat, m ≤ l.length ∧ k = .int .i64 m ∧ ∀ j : Nat, j < m → (j : Int) ≠ bt → (l[j]?).map (·.n) ≠ some n) (fun k => l.length - (intOf k).toNat)
  case atStart => exact ⟨0, Nat.zero_le _, rfl, fun j hj => by omega⟩
  case round =>
    obtain ⟨m, hm, rfl, hn⟩ := hrel
    have HN := Lib.hid hn
    clear hn
    by_cases hlt : m < l.length
    · obtain ⟨b, o, yn, ys, rfl, hB, hy, y0, y1⟩ := pl_elem h hlt
      have HY := Lib.hid hy
      clear hy h
      by_cases hd : (m : Int) = bt
      · have hd' : ((m : Int) != bt) = false := by simp [hd]
        have HD := Lib.hid hd
        clear hd
        go_wp2_with fail
        go_round
        case rel => exact ⟨m + 1, by omega, by go_num, fun j hj hjb => by
          rcases Nat.lt_or_ge j m with hh | hh
          · exact HN.out j hh hjb
          · exact absurd (by rw [show j = m by omega]; exact HD.out) hjb⟩
        case measure => simp [intOf]; omega
      · have hd' : ((m : Int) != bt) = true := by simp [hd]
        have HD := Lib.hid hd
        clear hd
        by_cases he : yn = n
        · have he' : (yn == n) = true := by simp [he]
          have HE := Lib.hid he
          clear he
          go_wp2_with fail
          go_ret
          exact ⟨ret_bool (decide_eq_true ⟨m, hlt, HD.out, by rw [HY.out]; simp [HE.out]⟩).symm, rfl⟩
        · have he' : (yn == n) = false := by simp [he]
          have HE := Lib.hid he
          clear he
          go_wp2_with fail
          go_round
          case rel => exact ⟨m + 1, by omega, by go_num, fun j hj hjb => by
            rcases Nat.lt_or_ge j m with hh | hh
            · exact HN.out j hh hjb
            · rw [show j = m by omega, HY.out]; simpa using HE.out⟩
          case measure => simp [intOf]; omega
    · clear h
      go_wp2_with fail
      go_ret
      exact ⟨ret_bool (decide_eq_false (by rintro ⟨k, hk, h1, h2⟩; exact HN.out k (by omega) h1 h2)).symm, rfl⟩
end Go.Proofs.Ytcmidhecmhbeoaa
