/- Chapter 14, the reference: what is enough; the write set. -/
import Derived.Test.YtcmidhecmhbeoaaWalkJ
namespace Go.Proofs.Ytcmidhecmhbeoaa
open Go.RowKit

set_option maxHeartbeats 1000000 in
theorem racked_any (l fr : List Pl) (a : Int) (A A2 : Option Addr) (cap cap2 : Nat) (B : Nat) (w : World) (h : PR w B A l) (h2 : PR w B A2 fr) (hB : B ≤ w.heap.size) (hl : l.length ≤ 100000) (hr : fr.length ≤ 100000) :
    Calls Try.prog 23 #[.slice A l.length cap, .int .i64 a, .slice A2 fr.length cap2] w fun e w' => e = .returned (.bool (ackedB l a fr)) ∧ Below w.heap.size w w' := by
  by_cases ha : 0 < a
  · go_enter Try.func23, Try.ntmps23
    go_wp2_with (go_at_call 19; refine (ramong_any l fr A A2 cap cap2 B _ h h2 hB hl hr).mono ?_; rintro e w1 ⟨rfl, hb1⟩)
    go_ret
    exact ⟨ret_bool (by unfold ackedB; rw [decide_eq_decide]; exact ⟨fun h => ⟨by omega, h⟩, fun h => h.2⟩), hb1⟩
  · clear h h2
    go_enter Try.func23, Try.ntmps23
    go_wp2_with fail
    go_ret
    exact ⟨ret_bool (by unfold ackedB; simp; omega), Below.refl _ _⟩

set_option maxHeartbeats 1000000 in
theorem rmissing_any (l fr : List Pl) (W a : Int) (A A2 : Option Addr) (cap cap2 : Nat) (B : Nat) (w : World) (h : PR w B A l) (h2 : PR w B A2 fr) (hB : B ≤ w.heap.size) (hl : l.length ≤ 100000) (hr : fr.length ≤ 100000)
    (hw1 : -1000000 ≤ W) (hw2 : W ≤ 1000000) (ha1 : -1000000 ≤ a) (ha2 : a ≤ 1000000) :
    Calls Try.prog 25 #[.slice A l.length cap, .int .i64 W, .int .i64 a, .slice A2 fr.length cap2] w fun e w' => e = .returned (.bool (missB l W a fr)) ∧ Below w.heap.size w w' := by
  by_cases ha : W < a
  · clear h h2
    go_enter Try.func25, Try.ntmps25
    go_wp2_with fail
    go_ret
    exact ⟨ret_bool (by unfold missB; simp [ha]), Below.refl _ _⟩
  · go_enter Try.func25, Try.ntmps25
    go_wp2_with (go_at_call 19; refine (ramong_any l fr A A2 cap cap2 B _ h h2 hB hl hr).mono ?_; rintro e w1 ⟨rfl, hb1⟩)
    go_ret
    exact ⟨ret_bool (by unfold missB; rw [decide_eq_decide]; exact ⟨.inr, fun h => h.resolve_left (by omega)⟩), hb1⟩

set_option maxHeartbeats 1000000 in
/-- The place of an entry's fragment, of one. -/
theorem rfrag_any (first n : Int) (A : Option Addr) (k c g o k1 : Nat) (w : World) (hf : FC w g o first A k c) :
    Calls Try.prog 56 #[.slice (some ⟨g, o, none⟩) 1 k1, .int .u64 n] w fun e w' => e = .returned (.int .i64 (if first ≤ n then 0 else -1)) ∧ w = w' := by
  obtain ⟨f0, f1⟩ := hf
  by_cases hfn : first ≤ n
  · rw [if_pos hfn]
    go_enter Try.func56, Try.ntmps56
    go_wp2
    go_loop [5] (fun i => i = .int .i64 0) (fun i => (intOf i).toNat)
    case atStart => rfl
    case round =>
      subst hrel
      go_wp2_with fail
      go_ret
      exact ⟨rfl, rfl⟩
  · rw [if_neg hfn]
    go_enter Try.func56, Try.ntmps56
    go_wp2
    go_loop [5] (fun i => i = .int .i64 0 ∨ i = .int .i64 (-1)) (fun i => (intOf i + 1).toNat)
    case atStart => exact .inl rfl
    case round =>
      rcases hrel with rfl | rfl
      · go_wp2_with fail
        go_round
        case rel => exact .inr rfl
        case measure => simp [intOf]
      · go_wp2_with fail
        go_ret
        exact ⟨rfl, rfl⟩

def lenOf : Value → Nat
  | .slice _ n _ => n
  | _ => 0
theorem mod_succ' (a L : Nat) (h : 0 < L) : (a + 1) % L = if a % L + 1 = L then 0 else a % L + 1 := by
  have h1 := Nat.mod_lt a h
  rw [Nat.add_mod]
  by_cases h2 : a % L + 1 = L
  · rw [if_pos h2]
    rcases Nat.lt_or_ge 1 L with h3 | h3
    · rw [Nat.mod_eq_of_lt h3, h2, Nat.mod_self]
    · have : L = 1 := by omega
      subst this; simp [Nat.mod_one]
  · rw [if_neg h2, Nat.mod_eq_of_lt (show 1 < L by omega), Nat.mod_eq_of_lt (by omega)]

set_option maxHeartbeats 2000000 in
theorem rset_any (first n W : Int) (l : List Pl) (A : Option Addr) (c g o k1 : Nat) (w : World) (hf : FC w g o first A l.length c) (hp : PR w w.heap.size A l) (hl : l.length ≤ 100000)
    (hn0 : 0 ≤ first) (hn1 : n ≤ 18446744073709551615) :
    Calls Try.prog 49 #[.slice (some ⟨g, o, none⟩) 1 k1, .int .i64 W, .int .u64 n] w fun e w' => Gives w (setP first l W n) e w' := by
  obtain ⟨i0, hi, hz0, hz1, hz2⟩ := info_parts info37
  have hf' := hf
  obtain ⟨f0, f1⟩ := hf
  have HP := Lib.hid hp
  have HF := Lib.hid hf'
  clear hp hf'
  by_cases hfn : first ≤ n
  · by_cases hW : 1 ≤ W ∧ W ≤ l.length
    · obtain ⟨hW1, hW2⟩ := hW
      have hset : setP first l W n = round l ((n - first) % l.length).toNat W.toNat := by unfold setP; rw [if_neg (by omega)]
      rw [hset]
      clear hset
      have hL : 0 < l.length := by omega
      have hk0 : (((n - first) % (l.length : Int)).toNat : Int) = (n - first) % (l.length : Int) := Int.toNat_of_nonneg (Int.emod_nonneg _ (by omega))
      have hk1 : (n - first) % (l.length : Int) < l.length := Int.emod_lt_of_pos _ (by omega)
      have hW0 : ((W.toNat : Nat) : Int) = W := Int.toNat_of_nonneg (by omega)
      have hwr : wrap64 ((n - first) % (l.length : Int)) = ((n - first) % (l.length : Int)).toNat := by rw [hk0]; (unfold wrap64; omega)
      obtain ⟨k, hk⟩ : ∃ k, ((n - first) % (l.length : Int)).toNat = k := ⟨_, rfl⟩
      rw [hk] at hk0 hwr ⊢
      have hkl : k < l.length := by omega
      obtain ⟨q, hq⟩ : ∃ q, W.toNat = q := ⟨_, rfl⟩
      rw [hq] at hW0 ⊢
      clear hq hk hk1 hk0
      go_enter Try.func49, Try.ntmps49
      go_wp2_with (go_at_call 56; refine (rfrag_any first n A l.length c g o k1 _ HF.out).mono ?_; rintro e w' ⟨rfl, rfl⟩; rw [if_pos hfn])
      rw [hwr]
      go_loopw [8, 10] (fun s i wr => ∃ m : Nat, m ≤ q ∧ i = .int .i64 ((k + m) % l.length : Nat) ∧ wr.ownsRow w.heap.size 37 2 s m ((round l k m).flatMap Pl.cs) ∧ Below w.heap.size w wr) (fun s _ _ => q - lenOf s)
      case atStart => exact ⟨0, Nat.zero_le _, by rw [Nat.add_zero, Nat.mod_eq_of_lt hkl], ⟨rfl, .inl ⟨rfl, rfl⟩⟩, Below.refl _ _⟩
      case round =>
        obtain ⟨m, hm, rfl, hown, hb⟩ := hrel
        obtain ⟨A2, c2, rfl, hc2, hc3⟩ := own_form hown
        by_cases hlt : m < q
        · have hmod : (k + m) % l.length < l.length := Nat.mod_lt _ hL
          obtain ⟨b, o', yn, ys, rfl, hB, hy, y0, y1⟩ := pl_elem (HP.out.below hb) hmod
          have hrs := round_snoc l k m
          rw [hy] at hrs
          simp only [Option.getD_some] at hrs
          have hms := mod_succ' (k + m) l.length hL
          have HR := Lib.hid hrs
          have HO := Lib.hid hown
          have HMS := Lib.hid hms
          clear hrs hown hy hms
          obtain ⟨r, hr⟩ : ∃ r, (k + m) % l.length = r := ⟨_, rfl⟩
          rw [hr] at y0 y1 hmod HMS ⊢
          have hsz := hb.size
          clear hr
          go_wp2_with (at_builtin; (refine wpList_append_own _ rfl (.tmp 51) (.tmp 56) 23 rfl w.heap.size 37 i0 _ 2 16 Try.underlying23 hi hz0 hz1 hz2 rfl (by decide) _ m _ rfl (HO.out.alloc _) ⟨wr.heap.size, 0, none⟩ 1 1 (Pl.cs ⟨yn, ys⟩) rfl rfl ?c1 ?c2 ?c3 ?c4 ?c5 ?_))
          case c1 => exact pl_cell_new wr yn ys
          case c2 => exact pl_one1 yn ys
          case c3 => simp only [maxLen]; omega
          case c4 => omega
          case c5 => simp; omega
          intro v' w1 hown' hgrow _
          have hb' : Below w.heap.size w w1 := (hb.alloc hb.size _).grown hgrow (by simp; omega) (fun k hk => (HO.out.lt k hk).1)
          obtain ⟨A5, c5, rfl, _, _⟩ := own_form hown'
          have HO' := Lib.hid hown'
          clear hown' hgrow HO
          by_cases hend : r + 1 = l.length
          · have hd : ((r : Int) + 1 == l.length) = true := by simp; omega
            have hms := HMS.out
            rw [if_pos hend] at hms
            go_wp2_with fail
            go_roundw
            case rel => exact ⟨m + 1, by omega, by rw [show k + (m + 1) = k + m + 1 by omega, hms]; rfl, by rw [HR.out]; simpa using HO'.out, hb'⟩
            case measure => simp [lenOf]; omega
          · have hd : ((r : Int) + 1 == l.length) = false := by simp; omega
            have hms := HMS.out
            rw [if_neg hend] at hms
            go_wp2_with fail
            go_roundw
            case rel => exact ⟨m + 1, by omega, by rw [show k + (m + 1) = k + m + 1 by omega, hms]; go_num, by rw [HR.out]; simpa using HO'.out, hb'⟩
            case measure => simp [lenOf]; omega
        · have hmq : m = q := by omega
          subst hmq
          have hrl := round_len l k m
          have HO := Lib.hid hown
          clear hown
          go_wp2_with fail
          go_ret
          exact ⟨A2, c2, by rw [hrl]; rfl, hb, by rw [hrl]; exact hc2, hc3, by rw [hrl]; exact HO.out⟩
    · have hset : setP first l W n = [] := by unfold setP; rw [if_pos (by omega)]
      rw [hset]
      clear hset
      by_cases hW1 : W < 1
      · clear f0 f1
        go_enter Try.func49, Try.ntmps49
        go_wp2_with (go_at_call 56; refine (rfrag_any first n A l.length c g o k1 _ HF.out).mono ?_; rintro e w' ⟨rfl, rfl⟩; rw [if_pos hfn])
        go_ret
        exact gives_nil (Below.refl _ _)
      · have hW2 : (l.length : Int) < W := by omega
        go_enter Try.func49, Try.ntmps49
        go_wp2_with (go_at_call 56; refine (rfrag_any first n A l.length c g o k1 _ HF.out).mono ?_; rintro e w' ⟨rfl, rfl⟩; rw [if_pos hfn])
        go_ret
        exact gives_nil (Below.refl _ _)
  · have hset : setP first l W n = [] := by unfold setP; rw [if_pos (by omega)]
    rw [hset]
    clear hset f0 f1
    go_enter Try.func49, Try.ntmps49
    go_wp2_with (go_at_call 56; refine (rfrag_any first n A l.length c g o k1 _ HF.out).mono ?_; rintro e w' ⟨rfl, rfl⟩; rw [if_neg hfn])
    go_ret
    exact gives_nil (Below.refl _ _)
end Go.Proofs.Ytcmidhecmhbeoaa
