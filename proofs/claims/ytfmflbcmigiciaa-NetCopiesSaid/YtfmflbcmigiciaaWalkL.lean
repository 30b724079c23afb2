/- Chapter 05: the things of a bag gone over from a number on; Find. -/
import Derived.Test.YtfmflbcmigiciaaWalkK
namespace Go.Proofs.Ytfmflbcmigiciaa
open Go.RowKit Go.Shelf

attribute [local go_sem] Oper.semAt_some

set_option maxRecDepth 100000 in
set_option maxHeartbeats 1000000 in
theorem from1_any (n lp : Nat) (rs : List Raw) (A : Option Addr) (c : Nat) (i : Int) (G bi bp : Nat) (J : Nat → World → Prop) (Jx : World → Prop) (hn : rs.length ≤ 100000)
    (hJc : ∀ k w, J k w → w.cell? ⟨bi, 0, none⟩ = some (.int .i64 i) ∧ w.cell? ⟨bp, 0, none⟩ = some (.pointer (some ⟨G, 0, none⟩)) ∧ w.cell? ⟨G, 0, none⟩ = some (.slice A rs.length c) ∧ G < w.heap.size ∧ MR w w.heap.size A rs)
    (hY : ∀ k w f t rA rn rc, J k w → i.toNat ≤ k → rs[k]? = some ⟨f, t, rA, rn, rc⟩ →
      YieldAt Fence.wide (n - 1) Try.prog lp #[.int .i64 k, .agg #[.int .i64 f, .int .i64 t, .slice rA rn rc]] w fun e w' => (e = .returned (.bool true) ∧ J (k + 1) w') ∨ (e = .returned (.bool false) ∧ Jx w'))
    (w : World) (h0 : J i.toNat w) :
    CallsIn Fence.wide n Try.prog 47 #[.func (.yield lp) #[] #[], .pointer (some ⟨bi, 0, none⟩), .pointer (some ⟨bp, 0, none⟩)] w fun e w' => (∃ v, e = .returned v) ∧ ((∃ k, rs.length ≤ k ∧ J k w') ∨ Jx w') := by
  refine callsIn_of_wp Try.func47 rfl trivial ?_ rfl
  simp only [Try.ntmps47, List.size_toArray, List.length_cons, List.length_nil, Nat.reduceAdd, Nat.reduceSub, Array.replicate_succ, Array.replicate_zero, List.push_toArray, List.append_toArray, List.nil_append, List.cons_append]
  obtain ⟨a0, a1, a2, a3, hp⟩ := hJc _ w h0
  clear hp
  gi_wp2
  clear a0 a1 a2 a3
  all_goals
    gi_loopw [4] (fun v wr => ∃ k : Nat, i.toNat ≤ k ∧ v = .int .i64 k ∧ J k wr) (fun v _ => rs.length - (intOf v).toNat)
    case atStart => exact ⟨i.toNat, Nat.le_refl _, congrArg (Value.int .i64) (by omega), h0⟩
    case round =>
      obtain ⟨k, hk, rfl, hj⟩ := hrel
      obtain ⟨a0, a1, a2, a3, hp⟩ := hJc k wr hj
      by_cases hlt : k < rs.length
      · have d1 : decide ((k : Int) < rs.length) = true := decide_eq_true (by omega)
        obtain ⟨b, o, f, t, rA, rn, rc, rfl, hBb, hr, y0, y1, y2⟩ := raw_elem hp hlt
        obtain ⟨fn, tmps, assign, body, hy, hR⟩ := hY k wr f t rA rn rc hj hk hr
        have HR := Lib.hid hR
        have HK := Lib.hid hk
        clear hR hp hr hk
        gi_wp2_with fail
        refine ⟨fun h => (by cases h), HR.out.mono ?_⟩
        rintro e w2 (⟨rfl, hj2⟩ | ⟨rfl, hx⟩)
        · gi_wp2_with fail
          go_roundw
          case rel => exact ⟨k + 1, by have := HK.out; omega, by go_num, hj2⟩
          case measure => simp [intOf]; omega
        · gi_wp2_with fail
          refine bodyPost_ret (results_none rfl _ _ _) rfl ?_
          exact ⟨⟨_, rfl⟩, .inr hx⟩
      · have d1 : decide ((k : Int) < rs.length) = false := decide_eq_false (by omega)
        clear hp
        gi_wp2_with fail
        go_end0
        exact ⟨⟨_, rfl⟩, .inl ⟨k, by omega, hj⟩⟩
end Go.Proofs.Ytfmflbcmigiciaa
