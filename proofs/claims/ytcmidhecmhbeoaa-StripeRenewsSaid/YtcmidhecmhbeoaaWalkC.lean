/- Chapter 14: from, the fragment of an entry, its write set. -/
import Derived.Test.YtcmidhecmhbeoaaWalkB
namespace Go.Proofs.Ytcmidhecmhbeoaa
open Go.RowKit

set_option maxHeartbeats 1000000 in
theorem from_any (l : List Pl) (A : Option Addr) (cap k n : Nat) (B : Nat) (w : World) (h : PR w B A l) (hB : B ≤ w.heap.size) (hl : 0 < l.length ∨ n = 0) (hk : k ≤ 1000000) (hn : n ≤ 1000000) (hl2 : l.length ≤ 100000) :
    Calls Try.prog 46 #[.slice A l.length cap, .int .i64 k, .int .i64 n] w fun e w' => ∃ A' c', e = .returned (.slice A' n c') ∧ Below w.heap.size w w' ∧ n ≤ c' ∧ c' ≤ maxLen ∧ w'.ownsRow w.heap.size 37 2 (.slice A' n c') n ((round l k n).flatMap Pl.cs) := by
  obtain ⟨i0, hi, hz0, hz1, hz2⟩ := info_parts info37
  have h := h.more hB
  clear hB
  go_enter Try.func46, Try.ntmps46
  go_wp2
  go_loopw [7, 8, 10] (fun s _ i wr => ∃ m : Nat, m ≤ n ∧ i = .int .i64 m ∧ wr.ownsRow w.heap.size 37 2 s m ((round l k m).flatMap Pl.cs) ∧ Below w.heap.size w wr) (fun _ _ i _ => n - (intOf i).toNat)
  case atStart => exact ⟨0, Nat.zero_le _, rfl, ⟨rfl, .inl ⟨rfl, rfl⟩⟩, Below.refl _ _⟩
  case round =>
    obtain ⟨m, hm, rfl, hown, hb⟩ := hrel
    obtain ⟨A2, c2, rfl, hc2, hc3⟩ := own_form hown
    by_cases hlt : m < n
    · have hlp : 0 < l.length := by omega
      have hlz : (l.length : Int) ≠ 0 := by omega
      have hmod : (k + m) % l.length < l.length := Nat.mod_lt _ hlp
      obtain ⟨b, o, yn, ys, rfl, hB, hy, y0, y1⟩ := pl_elem (h.below hb) hmod
      have hrs := round_snoc l k m
      rw [hy] at hrs
      simp only [Option.getD_some] at hrs
      have HR := Lib.hid hrs
      have HO := Lib.hid hown
      clear hrs hown hy h
      have hsz := hb.size
      have hbd1 : 0 ≤ ((k : Int) + m) % l.length := Int.emod_nonneg _ hlz
      have hbd2 : ((k : Int) + m) % l.length < l.length := Int.emod_lt_of_pos _ (by omega)
      have hbd3 : 0 ≤ ((k : Int) + m) % l.length ∧ ((k : Int) + m) % l.length < l.length := ⟨hbd1, hbd2⟩
      go_wp2_with (at_builtin; (refine wpList_append_own _ rfl (.tmp 13) (.tmp 23) 23 rfl w.heap.size 37 i0 _ 2 16 Try.underlying23 hi hz0 hz1 hz2 rfl (by decide) _ m _ rfl (HO.out.alloc _) ⟨wr.heap.size, 0, none⟩ 1 1 (Pl.cs ⟨yn, ys⟩) rfl rfl ?c1 ?c2 ?c3 ?c4 ?c5 ?_))
      case c1 => intro j u hj; match j, hj with | 0, hj => (simp [Pl.cs] at hj; subst hj; simp [go_sem]) | 1, hj => (simp [Pl.cs] at hj; subst hj; simp [go_sem])
      case c2 => have := pl_one [⟨yn, ys⟩]; simpa using this
      case c3 => simp only [maxLen]; omega
      case c4 => omega
      case c5 => have := hb.size; simp; omega
      intro v' w1 hown' hgrow _
      have hb' : Below w.heap.size w w1 := (hb.alloc hb.size _).grown hgrow (by have := hb.size; simp; omega) (fun k hk => (HO.out.lt k hk).1)
      have HO' := Lib.hid hown'
      clear hown' hgrow HO
      go_wp2_with fail
      go_roundw
      case rel => exact ⟨m + 1, by omega, by go_num, by rw [HR.out]; simpa using HO'.out, hb'⟩
      case measure => simp [intOf]; omega
    · have hmn : m = n := by omega
      subst hmn
      have HO := Lib.hid hown
      clear hown h hlt
      go_wp2_with fail
      go_ret
      exact ⟨A2, c2, rfl, hb, hc2, hc3, HO.out⟩
end Go.Proofs.Ytcmidhecmhbeoaa
