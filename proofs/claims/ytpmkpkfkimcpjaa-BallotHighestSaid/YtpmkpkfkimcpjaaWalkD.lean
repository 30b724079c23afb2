/- Chapter 06, the ballot of three numbers and the numbers of a ballot: what Puts, Of and the reference's Of compute. -/
import Derived.Test.YtpmkpkfkimcpjaaWalkB
import Derived.Test.YtpmkpkfkimcpjaaMore
namespace Go.Proofs.Ytpmkpkfkimcpjaa
open Go.RowKit

theorem bal_eq_iff (x1 x2 x3 y1 y2 y3 : Int) : ((⟨x1, x2, x3⟩ : Bal) = ⟨y1, y2, y3⟩) = (x1 = y1 ∧ x2 = y2 ∧ x3 = y3) := by simp
theorem run_eqB (x1 x2 x3 y1 y2 y3 : Int) (W : World) :
    (binOp .eql 27 (.agg #[.int .u64 x1, .int .i64 x2, .int .u64 x3]) (.agg #[.int .u64 y1, .int .i64 y2, .int .u64 y3])).run Try.prog W = .ok (.bool (decide ((⟨x1, x2, x3⟩ : Bal) = ⟨y1, y2, y3⟩))) W := by
  simp only [bal_eq_iff]
  simp [go_sem]
  by_cases h1 : x1 = y1 <;> by_cases h2 : x2 = y2 <;> by_cases h3 : x3 = y3 <;> simp [h1, h2, h3]
theorem run_neB (x1 x2 x3 y1 y2 y3 : Int) (W : World) :
    (binOp .neq 27 (.agg #[.int .u64 x1, .int .i64 x2, .int .u64 x3]) (.agg #[.int .u64 y1, .int .i64 y2, .int .u64 y3])).run Try.prog W = .ok (.bool (!decide ((⟨x1, x2, x3⟩ : Bal) = ⟨y1, y2, y3⟩))) W := by
  simp only [bal_eq_iff]
  simp [go_sem]
  by_cases h1 : x1 = y1 <;> by_cases h2 : x2 = y2 <;> by_cases h3 : x3 = y3 <;> simp [h1, h2, h3]

set_option maxHeartbeats 400000 in
theorem puts_any (a b c : Int) (w : World) (hb1 : -9223372036854775808 ≤ b) (hb2 : b ≤ 9223372036854775807) :
    Calls Try.prog 19 #[.agg #[.int .u64 a, .int .i64 b, .int .u64 c]] w fun e w' => ∃ g, e = .returned (.slice (some ⟨g, 0, none⟩) 3 3) ∧ Blk w' g 22 #[.int .u64 a, .int .u64 (max b 0), .int .u64 c] ∧ w.heap.size ≤ g ∧ Below w.heap.size w w' := by
  by_cases hb : 0 ≤ b
  · have hm : max b 0 = b := by omega
    rw [hm]
    clear hm
    go_enter Try.func19, Try.ntmps19
    go_wp2
    go_ret
    exact ⟨w.heap.size + 1, rfl, by have := Blk.new (w.alloc (Obj.cells #[Value.int IntKind.u64 a, Value.int IntKind.i64 b, Value.int IntKind.u64 c] 27)) 22 #[.int .u64 a, .int .u64 b, .int .u64 c]; rwa [World.size_alloc] at this, by omega, ((Below.refl _ _).alloc (Nat.le_refl _) _).alloc (by simp) _⟩
  · have hm : max b 0 = 0 := by omega
    rw [hm]
    clear hm
    have hb' : b < 0 := by omega
    clear hb
    go_enter Try.func19, Try.ntmps19
    go_wp2
    go_ret
    exact ⟨w.heap.size + 1, rfl, by have := Blk.new (w.alloc (Obj.cells #[Value.int IntKind.u64 a, Value.int IntKind.i64 b, Value.int IntKind.u64 c] 27)) 22 #[.int .u64 a, .int .u64 0, .int .u64 c]; rwa [World.size_alloc] at this, by omega, ((Below.refl _ _).alloc (Nat.le_refl _) _).alloc (by simp) _⟩

def ofB (l : List Int) : Bal × Bool :=
  match l with
  | [a, b, c] => if 15 < b then (Bal.zero, false) else if (⟨a, b, c⟩ : Bal) = Bal.zero ∨ mayB ⟨a, b, c⟩ = true then (⟨a, b, c⟩, true) else (Bal.zero, false)
  | _ => (Bal.zero, false)
theorem blk_alloc2 (w : World) (o : Obj) (t : TypeId) (cs : Array Value) : Blk ((w.alloc o).alloc (.cells cs t)) (w.heap.size + 1) t cs := by
  have := Blk.new (w.alloc o) t cs
  rwa [World.size_alloc] at this

set_option maxHeartbeats 1000000 in
theorem of3_any (a b c : Int) (A : Option Addr) (cap : Nat) (w : World) (h : Reads w w.heap.size 1 A 3 ([a, b, c].map (.int .u64))) (hb : 0 ≤ b) :
    Calls Try.prog 20 #[.slice A 3 cap] w fun e w' => e = .returned (.tuple #[.agg #[.int .u64 (ofB [a, b, c]).1.r, .int .i64 (ofB [a, b, c]).1.n, .int .u64 (ofB [a, b, c]).1.i], .bool (ofB [a, b, c]).2]) ∧ Below w.heap.size w w' := by
  obtain ⟨g, o, rfl, hB, hcl⟩ := h.lit (by simp)
  have z0 := hcl 0 _ rfl
  have z1 := hcl 1 _ rfl
  have z2 := hcl 2 _ rfl
  rw [Nat.add_zero] at z0
  clear hcl h
  by_cases hb15 : 15 < b
  · have hO : ofB [a, b, c] = (Bal.zero, false) := by unfold ofB; simp only [if_pos hb15]
    rw [hO]
    clear hO
    go_enter Try.func20, Try.ntmps20
    go_wp2_with fail
    refine bodyPost_ret (v := .tuple #[.agg #[.int .u64 0, .int .i64 0, .int .u64 0], .bool false]) (by simp [results, Try.results20, go_sem]) rfl ⟨rfl, ?_⟩
    exact (Below.refl _ _).alloc (Nat.le_refl _) _
  · have hb16 : b ≤ 15 := by omega
    have hE := run_neB a b c 0 0 0
    by_cases hz : (⟨a, b, c⟩ : Bal) = ⟨0, 0, 0⟩
    · have hO : ofB [a, b, c] = (⟨a, b, c⟩, true) := by unfold ofB; simp only [if_neg hb15]; rw [if_pos (.inl hz)]
      rw [hO]
      rw [decide_eq_true hz] at hE
      clear hO hz hb15
      go_enter Try.func20, Try.ntmps20
      go_wp2_with fail
      go_region
      go_wp2_with fail
      refine bodyPost_ret (v := .tuple #[.agg #[.int .u64 a, .int .i64 b, .int .u64 c], .bool true]) (by simp [results, Try.results20, go_sem]) rfl ⟨rfl, ?_⟩
      exact (((Below.refl _ _).alloc (Nat.le_refl _) _).alloc (by simp) _).drew
    · rw [decide_eq_false hz] at hE
      cases hm : mayB ⟨a, b, c⟩
      · have hO : ofB [a, b, c] = (Bal.zero, false) := by unfold ofB; simp only [if_neg hb15]; rw [if_neg (by rintro (h | h); exact hz h; rw [hm] at h; cases h)]
        rw [hO]
        clear hO hz hb15
        go_enter Try.func20, Try.ntmps20
        go_wp2_with fail
        go_region
        go_wp2_with fail
        refine (may_any _ _ _ _).mono ?_
        rintro e w1 ⟨rfl, hb1⟩
        have hbb := ((((Below.refl _ _).alloc (Nat.le_refl w.heap.size) (.cells #[.int .u64 0, .int .i64 0, .int .u64 0] 27)).alloc (by simp) (.cells #[.int .u64 a, .int .i64 b, .int .u64 c] 27)).drew).trans (hb1.mono (by simp; omega))
        have hk := (((Blk.new w 27 #[.int .u64 0, .int .i64 0, .int .u64 0]).alloc (.cells #[.int .u64 a, .int .i64 b, .int .u64 c] 27)).drew).below hb1 (by simp; omega)
        have hlt := hk.lt
        have hfz := hk.frozen
        obtain ⟨a0, a1, a2⟩ := blk_cell3 hk
        clear hb1 hk
        go_wp2_with fail
        refine bodyPost_ret (v := .tuple #[.agg #[.int .u64 0, .int .i64 0, .int .u64 0], .bool false]) (by simp [results, Try.results20, go_sem, a0, a1, a2]) rfl ⟨rfl, ?_⟩
        exact below_set3 hbb (Nat.le_refl _) _ _ _
      · have hO : ofB [a, b, c] = (⟨a, b, c⟩, true) := by unfold ofB; simp only [if_neg hb15]; rw [if_pos (.inr hm)]
        rw [hO]
        clear hO hz hb15
        go_enter Try.func20, Try.ntmps20
        go_wp2_with fail
        go_region
        go_wp2_with fail
        refine (may_any _ _ _ _).mono ?_
        rintro e w1 ⟨rfl, hb1⟩
        have hbb := ((((Below.refl _ _).alloc (Nat.le_refl w.heap.size) (.cells #[.int .u64 0, .int .i64 0, .int .u64 0] 27)).alloc (by simp) (.cells #[.int .u64 a, .int .i64 b, .int .u64 c] 27)).drew).trans (hb1.mono (by simp; omega))
        have hk := (((Blk.new w 27 #[.int .u64 0, .int .i64 0, .int .u64 0]).alloc (.cells #[.int .u64 a, .int .i64 b, .int .u64 c] 27)).drew).below hb1 (by simp; omega)
        have hk2 := ((blk_alloc2 w (.cells #[.int .u64 0, .int .i64 0, .int .u64 0] 27) 27 #[.int .u64 a, .int .i64 b, .int .u64 c]).drew).below hb1 (by simp)
        have hlt := hk.lt
        have hlt2 := hk2.lt
        have hfz := hk.frozen
        obtain ⟨a0, a1, a2⟩ := blk_cell3 hk
        obtain ⟨b0, b1, b2⟩ := blk_cell3 hk2
        clear hb1 hk hk2
        go_wp2_with fail
        refine bodyPost_ret (v := .tuple #[.agg #[.int .u64 a, .int .i64 b, .int .u64 c], .bool true]) (by simp [results, Try.results20, go_sem, a0, a1, a2]) rfl ⟨rfl, ?_⟩
        exact below_set3 hbb (Nat.le_refl _) _ _ _

set_option maxHeartbeats 1000000 in
theorem rof3_any (a b c : Int) (A : Option Addr) (cap : Nat) (w : World) (h : Reads w w.heap.size 1 A 3 ([a, b, c].map (.int .u64))) (hb : 0 ≤ b) :
    Calls Try.prog 21 #[.slice A 3 cap] w fun e w' => e = .returned (.tuple #[.agg #[.int .u64 (ofB [a, b, c]).1.r, .int .i64 (ofB [a, b, c]).1.n, .int .u64 (ofB [a, b, c]).1.i], .bool (ofB [a, b, c]).2]) ∧ Below w.heap.size w w' := by
  obtain ⟨g, o, rfl, hB, hcl⟩ := h.lit (by simp)
  have z0 := hcl 0 _ rfl
  have z1 := hcl 1 _ rfl
  have z2 := hcl 2 _ rfl
  rw [Nat.add_zero] at z0
  clear hcl h
  by_cases hb15 : 15 < b
  · have hO : ofB [a, b, c] = (Bal.zero, false) := by unfold ofB; simp only [if_pos hb15]
    rw [hO]
    clear hO
    go_enter Try.func21, Try.ntmps21
    go_wp2_with fail
    refine bodyPost_ret (v := .tuple #[.agg #[.int .u64 0, .int .i64 0, .int .u64 0], .bool false]) (by simp [results, Try.results21, go_sem]) rfl ⟨rfl, ?_⟩
    exact (Below.refl _ _).alloc (Nat.le_refl _) _
  · have hb16 : b ≤ 15 := by omega
    have hE := run_eqB a b c 0 0 0
    by_cases hz : (⟨a, b, c⟩ : Bal) = ⟨0, 0, 0⟩
    · have hO : ofB [a, b, c] = (⟨a, b, c⟩, true) := by unfold ofB; simp only [if_neg hb15]; rw [if_pos (.inl hz)]
      rw [hO]
      rw [decide_eq_true hz] at hE
      clear hO hz hb15
      go_enter Try.func21, Try.ntmps21
      go_wp2_with fail
      go_region
      go_wp2_with fail
      refine bodyPost_ret (v := .tuple #[.agg #[.int .u64 a, .int .i64 b, .int .u64 c], .bool true]) (by simp [results, Try.results21, go_sem]) rfl ⟨rfl, ?_⟩
      exact (((Below.refl _ _).alloc (Nat.le_refl _) _).alloc (by simp) _).drew
    · rw [decide_eq_false hz] at hE
      cases hm : mayB ⟨a, b, c⟩
      · have hO : ofB [a, b, c] = (Bal.zero, false) := by unfold ofB; simp only [if_neg hb15]; rw [if_neg (by rintro (h | h); exact hz h; rw [hm] at h; cases h)]
        rw [hO]
        clear hO hz hb15
        go_enter Try.func21, Try.ntmps21
        go_wp2_with fail
        go_region
        go_wp2_with fail
        refine (rmay_any _ _ _ _).mono ?_
        rintro e w1 ⟨rfl, hb1⟩
        have hbb := ((((Below.refl _ _).alloc (Nat.le_refl w.heap.size) (.cells #[.int .u64 0, .int .i64 0, .int .u64 0] 27)).alloc (by simp) (.cells #[.int .u64 a, .int .i64 b, .int .u64 c] 27)).drew).trans (hb1.mono (by simp; omega))
        have hk := (((Blk.new w 27 #[.int .u64 0, .int .i64 0, .int .u64 0]).alloc (.cells #[.int .u64 a, .int .i64 b, .int .u64 c] 27)).drew).below hb1 (by simp; omega)
        have hlt := hk.lt
        have hfz := hk.frozen
        obtain ⟨a0, a1, a2⟩ := blk_cell3 hk
        clear hb1 hk
        go_wp2_with fail
        refine bodyPost_ret (v := .tuple #[.agg #[.int .u64 0, .int .i64 0, .int .u64 0], .bool false]) (by simp [results, Try.results21, go_sem, a0, a1, a2]) rfl ⟨rfl, ?_⟩
        exact below_set3 hbb (Nat.le_refl _) _ _ _
      · have hO : ofB [a, b, c] = (⟨a, b, c⟩, true) := by unfold ofB; simp only [if_neg hb15]; rw [if_pos (.inr hm)]
        rw [hO]
        clear hO hz hb15
        go_enter Try.func21, Try.ntmps21
        go_wp2_with fail
        go_region
        go_wp2_with fail
        refine (rmay_any _ _ _ _).mono ?_
        rintro e w1 ⟨rfl, hb1⟩
        have hbb := ((((Below.refl _ _).alloc (Nat.le_refl w.heap.size) (.cells #[.int .u64 0, .int .i64 0, .int .u64 0] 27)).alloc (by simp) (.cells #[.int .u64 a, .int .i64 b, .int .u64 c] 27)).drew).trans (hb1.mono (by simp; omega))
        have hk := (((Blk.new w 27 #[.int .u64 0, .int .i64 0, .int .u64 0]).alloc (.cells #[.int .u64 a, .int .i64 b, .int .u64 c] 27)).drew).below hb1 (by simp; omega)
        have hk2 := ((blk_alloc2 w (.cells #[.int .u64 0, .int .i64 0, .int .u64 0] 27) 27 #[.int .u64 a, .int .i64 b, .int .u64 c]).drew).below hb1 (by simp)
        have hlt := hk.lt
        have hlt2 := hk2.lt
        have hfz := hk.frozen
        obtain ⟨a0, a1, a2⟩ := blk_cell3 hk
        obtain ⟨b0, b1, b2⟩ := blk_cell3 hk2
        clear hb1 hk hk2
        go_wp2_with fail
        refine bodyPost_ret (v := .tuple #[.agg #[.int .u64 a, .int .i64 b, .int .u64 c], .bool true]) (by simp [results, Try.results21, go_sem, a0, a1, a2]) rfl ⟨rfl, ?_⟩
        exact below_set3 hbb (Nat.le_refl _) _ _ _

theorem ofB_other (l : List Int) (h : l.length ≠ 3) : ofB l = (Bal.zero, false) := by
  unfold ofB
  split
  · exact absurd rfl h
  · rfl
set_option maxHeartbeats 1000000 in
theorem of_any (l : List Int) (A : Option Addr) (cap : Nat) (w : World) (h : Reads w w.heap.size 1 A l.length (l.map (.int .u64))) (hp : ∀ x ∈ l, 0 ≤ x) (hl : l.length ≤ 100000) :
    Calls Try.prog 20 #[.slice A l.length cap] w fun e w' => e = .returned (.tuple #[.agg #[.int .u64 (ofB l).1.r, .int .i64 (ofB l).1.n, .int .u64 (ofB l).1.i], .bool (ofB l).2]) ∧ Below w.heap.size w w' := by
  by_cases h3 : l.length = 3
  · match l, h3 with
    | [a, b, c], _ => exact of3_any a b c A cap w h (hp b (by simp))
  · rw [ofB_other l h3]
    have h3' : ((l.length : Int) != 3) = true := by simp; omega
    clear h h3 hp
    go_enter Try.func20, Try.ntmps20
    go_wp2_with fail
    refine bodyPost_ret (v := .tuple #[.agg #[.int .u64 0, .int .i64 0, .int .u64 0], .bool false]) (by simp [results, Try.results20, go_sem]) rfl ⟨rfl, ?_⟩
    exact (Below.refl _ _).alloc (Nat.le_refl _) _
set_option maxHeartbeats 1000000 in
theorem rof_any (l : List Int) (A : Option Addr) (cap : Nat) (w : World) (h : Reads w w.heap.size 1 A l.length (l.map (.int .u64))) (hp : ∀ x ∈ l, 0 ≤ x) (hl : l.length ≤ 100000) :
    Calls Try.prog 21 #[.slice A l.length cap] w fun e w' => e = .returned (.tuple #[.agg #[.int .u64 (ofB l).1.r, .int .i64 (ofB l).1.n, .int .u64 (ofB l).1.i], .bool (ofB l).2]) ∧ Below w.heap.size w w' := by
  by_cases h3 : l.length = 3
  · match l, h3 with
    | [a, b, c], _ => exact rof3_any a b c A cap w h (hp b (by simp))
  · rw [ofB_other l h3]
    have h3' : ((l.length : Int) != 3) = true := by simp; omega
    clear h h3 hp
    go_enter Try.func21, Try.ntmps21
    go_wp2_with fail
    refine bodyPost_ret (v := .tuple #[.agg #[.int .u64 0, .int .i64 0, .int .u64 0], .bool false]) (by simp [results, Try.results21, go_sem]) rfl ⟨rfl, ?_⟩
    exact (Below.refl _ _).alloc (Nat.le_refl _) _
end Go.Proofs.Ytpmkpkfkimcpjaa
