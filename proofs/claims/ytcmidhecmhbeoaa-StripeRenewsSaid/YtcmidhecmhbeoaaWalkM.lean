/- Chapter 14: what may be, what is the same, what is too long: at one fragment. -/
import Derived.Test.YtcmidhecmhbeoaaWalkL
namespace Go.Proofs.Ytcmidhecmhbeoaa
open Go.RowKit

def mayPl (x : Pl) : Bool := decide (0 < x.n) && decide (x.n ≤ 15) && decide (0 < x.s) && decide (x.s ≤ 4611686018427387903)
set_option maxHeartbeats 400000 in
theorem mayPlace_any (n s : Int) (w : World) : Calls Try.prog 44 #[.agg #[.int .i64 n, .int .u64 s]] w fun e w' => e = .returned (.bool (mayPl ⟨n, s⟩)) ∧ Below w.heap.size w w' := by
  by_cases h1 : 0 < n
  · by_cases h2 : n ≤ 15
    · by_cases h3 : 0 < s
      · go_enter Try.func44, Try.ntmps44
        go_wp2_with fail
        go_ret
        exact ⟨ret_bool (by simp [mayPl, h1, h2, h3]), (Below.refl _ _).alloc (Nat.le_refl _) _⟩
      · go_enter Try.func44, Try.ntmps44
        go_wp2_with fail
        go_ret
        exact ⟨ret_bool (by simp [mayPl]; omega), (Below.refl _ _).alloc (Nat.le_refl _) _⟩
    · go_enter Try.func44, Try.ntmps44
      go_wp2_with fail
      go_ret
      exact ⟨ret_bool (by simp [mayPl]; omega), (Below.refl _ _).alloc (Nat.le_refl _) _⟩
  · go_enter Try.func44, Try.ntmps44
    go_wp2_with fail
    go_ret
    exact ⟨ret_bool (by simp [mayPl]; omega), (Below.refl _ _).alloc (Nat.le_refl _) _⟩

set_option maxHeartbeats 1000000 in
theorem longFrags_any (first : Int) (A : Option Addr) (k c g o k1 : Nat) (w : World) (hf : FC w g o first A k c) :
    Calls Try.prog 31 #[.slice (some ⟨g, o, none⟩) 1 k1] w fun e w' => e = .returned (.bool (decide (30 < k))) ∧ w = w' := by
  obtain ⟨f0, f1⟩ := hf
  by_cases hk : 30 < k
  · rw [decide_eq_true hk]
    go_enter Try.func31, Try.ntmps31
    go_wp2
    go_loop [3] (fun i => i = .int .i64 0) (fun i => (1 - intOf i).toNat)
    case atStart => rfl
    case round =>
      subst hrel
      go_wp2_with fail
      go_ret
      exact ⟨rfl, rfl⟩
  · rw [decide_eq_false hk]
    go_enter Try.func31, Try.ntmps31
    go_wp2
    go_loop [3] (fun i => i = .int .i64 0 ∨ i = .int .i64 1) (fun i => (1 - intOf i).toNat)
    case atStart => exact .inl rfl
    case round =>
      rcases hrel with rfl | rfl
      · go_wp2_with fail
        go_round
        case rel => exact .inr rfl
        case measure => simp [intOf]
      · go_wp2_with fail
        go_ret
        exact ⟨rfl, rfl⟩

/-- A row handed on among rows. -/
structure Rw where
  A : Option Addr
  k : Nat
  c : Nat
def Rw.v (r : Rw) : Value := .slice r.A r.k r.c
def longB (k : Nat) (W : Int) (rs : List Rw) : Bool := decide (30 < k) || decide (1000 < W) || rs.any fun r => decide (60 < r.k)
set_option maxHeartbeats 1000000 in
theorem long_any (first W : Int) (A Ar : Option Addr) (k c g o k1 cr : Nat) (rs : List Rw) (B : Nat) (w : World) (hf : FC w g o first A k c) (hr : Reads w B 1 Ar rs.length (rs.map Rw.v)) (hl : rs.length ≤ 100000) (hlk : ∀ r ∈ rs, r.k ≤ maxLen) :
    Calls Try.prog 10 #[.slice (some ⟨g, o, none⟩) 1 k1, .int .i64 W, .slice Ar rs.length cr] w fun e w' => e = .returned (.bool (longB k W rs)) ∧ w = w' := by
  unfold maxLen at hlk
  have HF := Lib.hid hf
  clear hf
  by_cases hk : 30 < k
  · have hd : longB k W rs = true := by simp [longB, hk]
    rw [hd]
    have hdk : decide (30 < k) = true := decide_eq_true hk
    clear hr hd
    go_enter Try.func10, Try.ntmps10
    go_wp2_with (go_at_call 31; refine (longFrags_any first A k c g o k1 _ HF.out).mono ?_; rintro e w' ⟨rfl, rfl⟩; rw [hdk])
    go_ret
    exact ⟨rfl, rfl⟩
  · have hdk : decide (30 < k) = false := decide_eq_false hk
    by_cases hW : 1000 < W
    · have hd : longB k W rs = true := by simp [longB, hW]
      rw [hd]
      clear hr hd
      go_enter Try.func10, Try.ntmps10
      go_wp2_with (go_at_call 31; refine (longFrags_any first A k c g o k1 _ HF.out).mono ?_; rintro e w' ⟨rfl, rfl⟩; rw [hdk])
      go_ret
      exact ⟨rfl, rfl⟩
    · have hd : longB k W rs = rs.any fun r => decide (60 < r.k) := by simp [longB, hk, hW]
      rw [hd]
      clear hd
      go_enter Try.func10, Try.ntmps10
      go_wp2_with (go_at_call 31; refine (longFrags_any first A k c g o k1 _ HF.out).mono ?_; rintro e w' ⟨rfl, rfl⟩; rw [hdk])
      go_loop [7] (fun i => ∃ m : Nat, m ≤ rs.length ∧ i = .int .i64 m ∧ ∀ r ∈ rs.take m, r.k ≤ 60) (fun i => rs.length - (intOf i).toNat)
      case atStart => exact ⟨0, Nat.zero_le _, rfl, by simp⟩
      case round =>
        obtain ⟨m, hm, rfl, hall⟩ := hrel
        have HA := Lib.hid hall
        clear hall
        by_cases hlt : m < rs.length
        · obtain ⟨b, o', rfl, hB, hc⟩ := hr.lit (by simp; omega)
          obtain ⟨rA, rk, rc, hy⟩ : ∃ a k c, rs[m]? = some ⟨a, k, c⟩ := ⟨rs[m].A, rs[m].k, rs[m].c, List.getElem?_eq_getElem hlt⟩
          have y0 : w.cell? ⟨b, o' + m, none⟩ = some (.slice rA rk rc) := hc m _ (by rw [List.getElem?_map, hy]; rfl)
          have hts := take_snoc? hy
          have hrk : rk ≤ 2 ^ 63 - 1 := hlk _ (List.mem_of_getElem? hy)
          have HY := Lib.hid hy
          have HT := Lib.hid hts
          clear hc hr hy hts hlk
          by_cases h60 : rk ≤ 60
          · go_wp2_with fail
            go_round
            case rel => exact ⟨m + 1, by omega, by go_num, by
              rw [HT.out]
              intro r hr
              rcases List.mem_append.1 hr with hr | hr
              · exact HA.out r hr
              · rw [List.mem_singleton.1 hr]; exact h60⟩
            case measure => simp [intOf]; omega
          · go_wp2_with fail
            go_ret
            exact ⟨ret_bool (List.any_eq_true.2 ⟨_, List.mem_of_getElem? HY.out, decide_eq_true (by simp; omega)⟩).symm, rfl⟩
        · have hml : rs.take m = rs := by rw [List.take_of_length_le]; omega
          clear hr
          go_wp2_with fail
          go_ret
          refine ⟨ret_bool ?_, rfl⟩
          symm
          rw [List.any_eq_false]
          intro r hr
          have := HA.out r (by rw [hml]; exact hr)
          simp; omega
end Go.Proofs.Ytcmidhecmhbeoaa
