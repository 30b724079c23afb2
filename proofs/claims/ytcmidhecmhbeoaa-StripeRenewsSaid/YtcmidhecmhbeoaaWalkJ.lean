/- Chapter 14: a place in the place of another one. -/
import Derived.Test.YtcmidhecmhbeoaaWalkI
import Derived.Laws.OwnMore
namespace Go.Proofs.Ytcmidhecmhbeoaa
open Go.RowKit

def swapL (l : List Pl) (old fresh : Pl) : Option (List Pl) := if idxP l old < 0 ∨ nodeB l fresh.n (idxP l old) = true then none else some (l.set (idxP l old).toNat fresh)
/-- A fragment whose places are a row of the call's own, or none. -/
def GivesF (w : World) (first : Int) (r : Option (List Pl)) (e : Ending) (w' : World) : Prop :=
  match r with
  | none => e = .returned (.tuple #[.agg #[.int .u64 0, .slice none 0 0], .bool false]) ∧ Below w.heap.size w w'
  | some l => ∃ A' c', e = .returned (.tuple #[.agg #[.int .u64 first, .slice A' l.length c'], .bool true]) ∧ Below w.heap.size w w' ∧ l.length ≤ c' ∧ c' ≤ maxLen ∧ w'.ownsRow w.heap.size 37 2 (.slice A' l.length c') l.length (l.flatMap Pl.cs)

theorem flat_set (l : List Pl) (k : Nat) (n s : Int) : ((l.flatMap Pl.cs).set (k * 2) (.int .i64 n)).set (k * 2 + 1) (.int .u64 s) = (l.set k ⟨n, s⟩).flatMap Pl.cs := by
  induction l generalizing k with
  | nil => simp
  | cons x l ih =>
    cases k with
    | zero => simp [Pl.cs]
    | succ k =>
      have := ih k
      simp only [List.flatMap_cons, List.set_cons_succ, Pl.cs]
      rw [← this]
      rw [show (k + 1) * 2 = k * 2 + 1 + 1 by omega]
      simp
theorem idxP_lt (l : List Pl) (x : Pl) (h : 0 ≤ idxP l x) : (idxP l x).toNat < l.length ∧ ((idxP l x).toNat : Int) = idxP l x := by
  unfold idxP at *
  by_cases hx : x ∈ l
  · rw [if_pos hx] at h ⊢; exact ⟨by simpa using List.idxOf_lt_length_of_mem hx, by simp⟩
  · rw [if_neg hx] at h; omega
theorem idxP_lo (l : List Pl) (x : Pl) : -1 ≤ idxP l x := by unfold idxP; split <;> omega
theorem idxP_hi (l : List Pl) (x : Pl) : idxP l x ≤ l.length := by
  unfold idxP; split
  · have := List.idxOf_le_length (l := l) (a := x); omega
  · omega

/-- The first memory of a swap: the fragment, the old and the fresh one, the answer. -/
def swapW (w : World) (first : Int) (A : Option Addr) (k c : Nat) (on os fn fs : Int) : World :=
  (((w.alloc (.cells #[.int .u64 first, .slice A k c] 25)).alloc (.cells #[.int .i64 on, .int .u64 os] 37)).alloc (.cells #[.int .i64 fn, .int .u64 fs] 37)).alloc (.cells #[.int .u64 0, .slice none 0 0] 25)
theorem swapW_facts (w : World) (first : Int) (A : Option Addr) (k c : Nat) (on os fn fs : Int) :
    (swapW w first A k c on os fn fs).heap.size = w.heap.size + 4 ∧ Below w.heap.size w (swapW w first A k c on os fn fs) ∧ Blk (swapW w first A k c on os fn fs) w.heap.size 25 #[.int .u64 first, .slice A k c] ∧
      Blk (swapW w first A k c on os fn fs) (w.heap.size + 1) 37 #[.int .i64 on, .int .u64 os] ∧ Blk (swapW w first A k c on os fn fs) (w.heap.size + 1 + 1) 37 #[.int .i64 fn, .int .u64 fs] ∧ Blk (swapW w first A k c on os fn fs) (w.heap.size + 1 + 1 + 1) 25 #[.int .u64 0, .slice none 0 0] := by
  have h1 := Blk.new (w.alloc (.cells #[.int .u64 first, .slice A k c] 25)) 37 #[.int .i64 on, .int .u64 os]
  have h2 := Blk.new ((w.alloc (.cells #[.int .u64 first, .slice A k c] 25)).alloc (.cells #[.int .i64 on, .int .u64 os] 37)) 37 #[.int .i64 fn, .int .u64 fs]
  have h3 := Blk.new (((w.alloc (.cells #[.int .u64 first, .slice A k c] 25)).alloc (.cells #[.int .i64 on, .int .u64 os] 37)).alloc (.cells #[.int .i64 fn, .int .u64 fs] 37)) 25 #[.int .u64 0, .slice none 0 0]
  simp only [World.size_alloc] at h1 h2 h3
  refine ⟨by simp [swapW], ?_, ?_, ?_, ?_, ?_⟩
  · unfold swapW; exact ((((Below.refl _ _).alloc (Nat.le_refl _) _).alloc (by simp) _).alloc (by simp; omega) _).alloc (by simp; omega) _
  · unfold swapW; exact (((Blk.new _ _ _).alloc _).alloc _).alloc _
  · unfold swapW; exact (h1.alloc _).alloc _
  · unfold swapW; exact h2.alloc _
  · unfold swapW; exact h3

theorem own_addr {w : World} {base size n c : Nat} {e : TypeId} {A : Option Addr} {xs : List Value} (h : w.ownsRow base e size (.slice A n c) n xs) (hn : 0 < n) : ∃ g, A = some ⟨g, 0, none⟩ ∧ base ≤ g := by
  rcases h.2 with ⟨h', h0⟩ | ⟨g', cap', cur, h', hb, _⟩
  · omega
  · injection h' with h1; exact ⟨g', h1, hb⟩

set_option maxHeartbeats 2000000 in
theorem swap_any (first on os fn fs : Int) (l : List Pl) (A : Option Addr) (c : Nat) (B : Nat) (w : World) (h : PR w B A l) (hB : B ≤ w.heap.size) (hl : l.length ≤ 100000) :
    Calls Try.prog 29 #[.agg #[.int .u64 first, .slice A l.length c], .agg #[.int .i64 on, .int .u64 os], .agg #[.int .i64 fn, .int .u64 fs]] w fun e w' => GivesF w first (swapL l ⟨on, os⟩ ⟨fn, fs⟩) e w' := by
  have h := h.more hB
  clear hB
  obtain ⟨hWs, hWb, hK3, hK4, hK5, hK6⟩ := swapW_facts w first A l.length c on os fn fs
  have hsw : swapW w first A l.length c on os fn fs = (((w.alloc (.cells #[.int .u64 first, .slice A l.length c] 25)).alloc (.cells #[.int .i64 on, .int .u64 os] 37)).alloc (.cells #[.int .i64 fn, .int .u64 fs] 37)).alloc (.cells #[.int .u64 0, .slice none 0 0] 25) := rfl
  go_enter Try.func29, Try.ntmps29
  go_wp2_with fail
  rw [← hsw]
  generalize swapW w first A l.length c on os fn fs = W0 at hWs hWb hK3 hK4 hK5 hK6 hsw ⊢
  have hi1 := idxP_lo l ⟨on, os⟩
  have hi2 := idxP_hi l ⟨on, os⟩
  have hi3 := idxP_lt l ⟨on, os⟩
  refine (index_any l A c on os w.heap.size W0 (h.below hWb) (by omega) (by omega)).mono ?_
  rintro e w1 ⟨rfl, hb1⟩
  obtain ⟨kk, hkk⟩ : ∃ kk, idxP l ⟨on, os⟩ = kk := ⟨_, rfl⟩
  have hsl : swapL l ⟨on, os⟩ ⟨fn, fs⟩ = if kk < 0 ∨ nodeB l fn kk = true then none else some (l.set kk.toNat ⟨fn, fs⟩) := by unfold swapL; rw [hkk]
  rw [hkk] at hi1 hi2 hi3 ⊢
  have HS := Lib.hid hsl
  have HI3 := Lib.hid hi3
  have K3 := hK3.below hb1 (by omega)
  have hl3 := K3.lt
  obtain ⟨a0, a1⟩ := blk_cell2 K3
  clear hsl hkk hsw hi3 hK4 K3
  go_wp2_with fail
  clear a0 a1 hl3
  obtain ⟨wo, rfl⟩ : ∃ wo : World, wo = w1 := ⟨_, rfl⟩
  go_loopw [9, 10, 18] (fun _ _ k wr => ∃ m : Nat, m ≤ l.length ∧ k = .int .i64 m ∧ Below W0.heap.size W0 wr ∧ ∀ j : Nat, j < m → (j : Int) ≠ kk → (l[j]?).map (·.n) ≠ some fn) (fun _ _ k _ => l.length - (intOf k).toNat)
  case atStart => exact ⟨0, Nat.zero_le _, rfl, hb1, fun j hj => by omega⟩
  case round =>
    obtain ⟨m, hm, rfl, hb2, hn⟩ := hrel
    have hb3 := hWb.trans (hb2.mono (by omega))
    have K3 := hK3.below hb2 (by omega)
    have K5 := hK5.below hb2 (by omega)
    have K6 := hK6.below hb2 (by omega)
    have hsz := hb2.size
    have hl6 := K6.lt
    have hl5 := K5.lt
    have hl3 := K3.lt
    have hf3 := K3.frozen
    have hf6 := K6.frozen
    obtain ⟨a0, a1⟩ := blk_cell2 K3
    obtain ⟨b0, b1⟩ := blk_cell2 K5
    obtain ⟨d0, d1⟩ := blk_cell2 K6
    have HN := Lib.hid hn
    have HK3 := Lib.hid K3
    have HK6 := Lib.hid K6
    clear hn K3 K5 K6
    by_cases hlt : m < l.length
    · obtain ⟨b, o, yn, ys, rfl, hB, hy, y0, y1⟩ := pl_elem (h.below hb3) hlt
      have HY := Lib.hid hy
      clear hy h
      by_cases hmk : (m : Int) = kk
      · have hd : ((m : Int) != kk) = false := by simp [hmk]
        have HM := Lib.hid hmk
        clear hmk
        go_wp2_with fail
        go_roundw
        case rel => exact ⟨m + 1, by omega, by go_num, hb2.alloc hb2.size _, fun j hj hjb => by
          rcases Nat.lt_or_ge j m with hh | hh
          · exact HN.out j hh hjb
          · exact absurd (by rw [show j = m by omega]; exact HM.out) hjb⟩
        case measure => simp [intOf]; omega
      · have hd : ((m : Int) != kk) = true := by simp [hmk]
        have HM := Lib.hid hmk
        clear hmk
        by_cases he : yn = fn
        · have he' : (yn == fn) = true := by simp [he]
          have HE := Lib.hid he
          clear he
          go_wp2_with fail
          have hnone : swapL l ⟨on, os⟩ ⟨fn, fs⟩ = none := by
            rw [HS.out, if_pos]
            exact .inr (decide_eq_true ⟨m, hlt, HM.out, by rw [HY.out]; simp [HE.out]⟩)
          refine bodyPost_ret (v := .tuple #[.agg #[.int .u64 0, .slice none 0 0], .bool false]) (by simp [results, Try.results29, go_sem, d0, d1, hl6]) rfl ?_
          rw [hnone]
          exact ⟨rfl, (below_set2 hb3 (by omega) _ _).alloc (by simp only [size_setCell]; exact hb3.size) _⟩
        · have he' : (yn == fn) = false := by simp [he]
          have HE := Lib.hid he
          clear he
          go_wp2_with fail
          go_roundw
          case rel => exact ⟨m + 1, by omega, by go_num, hb2.alloc hb2.size _, fun j hj hjb => by
            rcases Nat.lt_or_ge j m with hh | hh
            · exact HN.out j hh hjb
            · rw [show j = m by omega, HY.out]; simpa using HE.out⟩
          case measure => simp [intOf]; omega
    · have hnode : nodeB l fn kk = false := decide_eq_false (by rintro ⟨k, hk, h1, h2⟩; exact HN.out k (by omega) h1 h2)
      have HNO := Lib.hid hnode
      clear hnode
      by_cases hk0 : kk < 0
      · go_wp2_with fail
        have hnone : swapL l ⟨on, os⟩ ⟨fn, fs⟩ = none := by rw [HS.out, if_pos (.inl hk0)]
        refine bodyPost_ret (v := .tuple #[.agg #[.int .u64 0, .slice none 0 0], .bool false]) (by simp [results, Try.results29, go_sem, d0, d1]) rfl ?_
        rw [hnone]
        exact ⟨rfl, below_set2 hb3 (by omega) _ _⟩
      · obtain ⟨hkl, hkt⟩ := HI3.out (by omega)
        have hsome : swapL l ⟨on, os⟩ ⟨fn, fs⟩ = some (l.set kk.toNat ⟨fn, fs⟩) := by rw [HS.out, if_neg (by rw [HNO.out]; simp; omega)]
        have HSO := Lib.hid hsome
        obtain ⟨q, hq⟩ : ∃ q : Nat, kk.toNat = q := ⟨_, rfl⟩
        rw [hq] at hkl hkt HSO
        subst hkt
        clear hsome HNO HS HN HI3 hq
        go_wp2_with fail
        refine (clone_any l A c w.heap.size _ (h.below hb3) hb3.size hl).mono ?_
        rintro e w2 ⟨A', c', rfl, hb4, hc1, hc2, ho4⟩
        obtain ⟨g, rfl, hgw⟩ := own_addr ho4 (by omega)
        have hgl := (ho4.lt g rfl).2
        have K3 := HK3.out.below hb4 hl3
        have K6 := HK6.out.below hb4 hl6
        have hlw := hb4.size
        have r3 := K3.frozen
        have r6 := K6.frozen
        have rg := ho4.frozenAt
        obtain ⟨yn, ys, hyq⟩ : ∃ yn ys, l[q] = ⟨yn, ys⟩ := ⟨_, _, rfl⟩
        have f0 := flat_get Pl.cs 2 pl_len l q 0 hkl (by omega)
        have f1 := flat_get Pl.cs 2 pl_len l q 1 hkl (by omega)
        rw [hyq] at f0 f1
        rw [Nat.add_zero] at f0
        have v0 : w2.cell? ⟨g, q * 2, none⟩ = some (.int .i64 yn) := (ho4.cellAt (q * 2) (by omega)).trans f0
        have v1 : w2.cell? ⟨g, q * 2 + 1, none⟩ = some (.int .u64 ys) := (ho4.cellAt (q * 2 + 1) (by omega)).trans f1
        obtain ⟨z0, z1⟩ := blk_cell2 K3
        obtain ⟨t0, t1⟩ := blk_cell2 K6
        obtain ⟨hcc, hff⟩ := bcell hb4
        have n1 : g ≠ w.heap.size := by omega
        have n2 : g ≠ w.heap.size + 1 + 1 + 1 := by omega
        have n3 : w.heap.size ≠ g := by omega
        have n4 : w.heap.size + 1 + 1 + 1 ≠ g := by omega
        have HO4 := Lib.hid ho4
        have hb5 := hb3.trans (hb4.mono hb3.size)
        clear ho4 hb4 hyq f0 f1 K3 K6
        go_wp2_with fail
        refine bodyPost_ret (v := .tuple #[.agg #[.int .u64 first, .slice (some ⟨g, 0, none⟩) l.length c'], .bool true]) (by simp [results, Try.results29, go_sem, t0, t1]) rfl ?_
        rw [HSO.out]
        have hsl : (l.set q ⟨fn, fs⟩).length = l.length := by simp
        have o1 := ownsRow_setCell_below HO4.out (a := ⟨w.heap.size, 1, none⟩) (by simp; omega) (.slice (some ⟨g, 0, none⟩) l.length c')
        have o2 := (o1.stored (q * 2) (.int .i64 fn)).1
        have o3 := (o2.stored (q * 2 + 1) (.int .u64 fs)).1
        rw [flat_set] at o3
        have o4 := ownsRow_setCell_below (ownsRow_setCell_below o3 (a := ⟨w.heap.size + 1 + 1 + 1, 0, none⟩) (by simp; omega) (.int .u64 first)) (a := ⟨w.heap.size + 1 + 1 + 1, 1, none⟩) (by simp; omega) (.slice (some ⟨g, 0, none⟩) l.length c')
        refine ⟨some ⟨g, 0, none⟩, c', by rw [hsl], ?_, by rw [hsl]; exact hc1, hc2, by rw [hsl]; exact own_low o4 hb3.size⟩
        exact below_set2 (((hb5.setCell (p := ⟨w.heap.size, 1, none⟩) (Nat.le_refl _) _).setCell (p := ⟨g, q * 2, none⟩) (by simp; omega) _).setCell (p := ⟨g, q * 2 + 1, none⟩) (by simp; omega) _) (by omega) _ _
end Go.Proofs.Ytcmidhecmhbeoaa
