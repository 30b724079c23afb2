/- Chapter 05: whether acts are many; rows of messages of a law's own, beside a net. -/
import Derived.Test.YtfmflbcmigiciaaOpen
namespace Go.Proofs.Ytfmflbcmigiciaa
open Go.RowKit

theorem act_elem {w : World} {B : Nat} {A : Option Addr} {l : List ActM} (h : AR w B A l) {k : Nat} (hk : k < l.length) :
    ∃ b o x, A = some ⟨b, o, none⟩ ∧ b < B ∧ l[k]? = some x ∧ x = l[k] ∧ w.cell? ⟨b, o + k * 5, none⟩ = some (.int .i64 x.d) ∧ w.cell? ⟨b, o + k * 5 + 1, none⟩ = some (.int .i64 x.a) ∧ w.cell? ⟨b, o + k * 5 + 2, none⟩ = some (.int .i64 x.b) ∧ w.cell? ⟨b, o + k * 5 + 3, none⟩ = some (.int .i64 x.i) ∧ w.cell? ⟨b, o + k * 5 + 4, none⟩ = some (.slice x.A x.bs.length x.c) := by
  obtain ⟨b, o, rfl, hB, hc⟩ := Reads.elem actm_len h hk (by omega)
  have y0 := hc 0 _ (by omega) rfl
  rw [Nat.add_zero] at y0
  exact ⟨b, o, l[k], rfl, hB, List.getElem?_eq_getElem hk, rfl, y0, hc 1 _ (by omega) rfl, hc 2 _ (by omega) rfl, hc 3 _ (by omega) rfl, hc 4 _ (by omega) rfl⟩

set_option maxHeartbeats 1000000 in
theorem many_any (l : List ActM) (A : Option Addr) (c : Nat) (B : Nat) (w : World) (h : AR w B A l) (hB : B ≤ w.heap.size) (hok : ∀ x ∈ l, x.bs.length ≤ maxLen) (hl : l.length ≤ maxLen) :
    Calls Try.prog 13 #[.slice A l.length c] w fun e w' => w = w' ∧ (e = .returned (.bool true) ∨ (e = .returned (.bool false) ∧ l.length ≤ 600 ∧ ∀ x ∈ l, x.bs.length ≤ 160000)) := by
  have H := Lib.hid (h.more hB)
  have HOK := Lib.hid hok
  unfold maxLen at hl
  clear h hok
  go_enter Try.func13, Try.ntmps13
  go_wp2_with fail
  go_loopw [3, 4] (fun nv iv wr => ∃ k n : Nat, k ≤ l.length ∧ iv = .int .i64 k ∧ nv = .int .i64 n ∧ w = wr ∧ k ≤ n ∧ n ≤ 600 ∧ ∀ j x, j < k → l[j]? = some x → x.bs.length ≤ 160000) (fun _ iv _ => l.length - (intOf iv).toNat)
  case atStart => exact ⟨0, 0, Nat.zero_le _, rfl, rfl, rfl, Nat.le_refl _, by decide, fun j x hj => by omega⟩
  case round =>
    obtain ⟨k, n, hk, rfl, rfl, rfl, hkn, hn, hall⟩ := hrel
    by_cases hlt : k < l.length
    · obtain ⟨b, o, x, hA, hBb, hx, hxe, y0, y1, y2, y3, y4⟩ := act_elem H.out hlt
      have hxl := HOK.out x (List.mem_of_getElem? hx)
      unfold maxLen at hxl
      subst hA
      have HX := Lib.hid hx
      have HALL := Lib.hid hall
      clear hx hall y0 y1 y2 y3 hxe
      go_wp2_with fail
      · go_ret
        exact ⟨rfl, .inl rfl⟩
      · rename_i hle
        refine ⟨⟨k + 1, n + (1 + x.bs.length / 256), by omega, by go_num, congrArg (Value.int .i64) (by omega), trivial, by omega, by omega, fun j y hj hy => ?_⟩, by simp [intOf]; omega⟩
        rcases Nat.lt_or_ge j k with hh | hh
        · exact HALL.out j y hh hy
        · rw [show j = k by omega, HX.out] at hy
          cases hy
          omega
    · have hkl : k = l.length := by omega
      have HALL := Lib.hid (show ∀ x ∈ l, x.bs.length ≤ 160000 from fun x hx => by
        obtain ⟨i, hi, rfl⟩ := List.mem_iff_getElem.1 hx
        exact hall i _ (by omega) (List.getElem?_eq_getElem hi))
      clear hall
      go_wp2_with fail
      go_ret
      exact ⟨rfl, .inr ⟨rfl, by omega, HALL.out⟩⟩

/-- A row of messages of a law's own. -/
structure LRow (w0 w : World) (R : Nat → Prop) (sv : Value) (ms : List Msg) : Prop where
  ex : ∃ rs, w.ownsRow w0.heap.size 33 3 sv ms.length (rs.flatMap Raw.cs) ∧ MsgsAt R w rs ms
  off : ∀ x, sv.ownBlock = some x → ¬ R x
theorem LRow.nil (w0 w : World) (R : Nat → Prop) : LRow w0 w R (.slice none 0 0) [] := ⟨⟨[], ⟨rfl, .inl ⟨rfl, rfl⟩⟩, MsgsAt.nil⟩, fun x h => by cases h⟩
theorem LRow.lt {w0 w : World} {R : Nat → Prop} {sv : Value} {ms : List Msg} (h : LRow w0 w R sv ms) {x : Nat} (hx : sv.ownBlock = some x) : w0.heap.size ≤ x ∧ x < w.heap.size := by
  obtain ⟨rs, ho, _⟩ := h.ex
  exact ho.lt x hx
theorem LRow.upd {S R R' : Nat → Prop} {w0 w w' : World} {sv : Value} {ms : List Msg} (h : LRow w0 w R sv ms) (hu : Upd S R R' w w') (hs : ∀ x, sv.ownBlock = some x → ¬ S x) : LRow w0 w' R' sv ms := by
  have hlt := @LRow.lt _ _ _ _ _ h
  obtain ⟨rs, ho, hm⟩ := h.ex
  refine ⟨⟨rs, own_far ho hu.far hs, hm.upd hu⟩, fun x hx hR => ?_⟩
  rcases hu.old x hR with h1 | h1
  · exact h.off x hx h1
  · have := (hlt hx).2; omega
theorem MsgsAt.moreR {R R' : Nat → Prop} {w : World} {rs : List Raw} {ms : List Msg} (h : MsgsAt R w rs ms) (hr : ∀ k, R k → R' k) : MsgsAt R' w rs ms := ⟨h.1, fun k r m e1 e2 => by
  have := h.2 k r m e1 e2
  exact ⟨this.f, this.t, this.n, this.le, this.rd.moreR hr⟩⟩
theorem LRow.moreR {R : Nat → Prop} {w0 w : World} {sv : Value} {ms : List Msg} (h : LRow w0 w R sv ms) {X : Nat → Prop} (hX : ∀ x, sv.ownBlock = some x → ¬ X x) : LRow w0 w (fun k => R k ∨ X k) sv ms := by
  obtain ⟨rs, ho, hm⟩ := h.ex
  refine ⟨⟨rs, ho, hm.moreR fun k => .inl⟩, fun x hx hR => ?_⟩
  rcases hR with hR | hR
  · exact h.off x hx hR
  · exact hX x hx hR

/-- A net and two rows of messages beside it. -/
structure TB (w0 w : World) (R : Nat → Prop) (G : Nat) (A : Option Addr) (N : Int) (cut : Nat → Nat → Bool) (bag : List Msg) (sv cv : Value) (sent came : List Msg) : Prop where
  mine : Mine w0 w R G A N cut bag
  s : LRow w0 w R sv sent
  c : LRow w0 w R cv came
  base : ∀ k, k < w0.heap.size → R k
  dis : ∀ x, sv.ownBlock = some x → cv.ownBlock ≠ some x
  ns : ∀ x, sv.ownBlock = some x → ¬ wr G A x
  nc : ∀ x, cv.ownBlock = some x → ¬ wr G A x
section
variable {w0 w w' : World} {R : Nat → Prop} {G : Nat} {A : Option Addr} {N : Int} {cut cut' : Nat → Nat → Bool} {bag bag' : List Msg} {sv cv : Value} {sent came : List Msg}
theorem TB.swap (h : TB w0 w R G A N cut bag sv cv sent came) : TB w0 w R G A N cut bag cv sv came sent := ⟨h.mine, h.c, h.s, h.base, fun x hx hy => h.dis x hy hx, h.nc, h.ns⟩
theorem TB.net (h : TB w0 w R G A N cut bag sv cv sent came) (hn : Net1 w w' R G A N cut' bag') : ∃ R' A', TB w0 w' R' G A' N cut' bag' sv cv sent came ∧ Upd (wr G A) R R' w w' := by
  obtain ⟨R', A', hm, hu, ha⟩ := h.mine.next hn
  refine ⟨R', A', ⟨hm, h.s.upd hu h.ns, h.c.upd hu h.nc, fun k hk => hu.up k (h.base k hk), h.dis, fun x hx hw => ?_, fun x hx hw => ?_⟩, hu⟩
  · rcases ha x hw with h1 | h1
    · exact h.ns x hx h1
    · have := (h.s.lt hx).2; omega
  · rcases ha x hw with h1 | h1
    · exact h.nc x hx h1
    · have := (h.c.lt hx).2; omega
theorem TB.below (h : TB w0 w R G A N cut bag sv cv sent came) (hb : Below w.heap.size w w') : TB w0 w' R G A N cut bag sv cv sent came := by
  obtain ⟨hm, hu⟩ := h.mine.under hb
  exact ⟨hm, h.s.upd hu fun _ _ h => h, h.c.upd hu fun _ _ h => h, h.base, h.dis, h.ns, h.nc⟩
theorem TB.moreR (h : TB w0 w R G A N cut bag sv cv sent came) {X : Nat → Prop} (hX : ∀ k, X k → k < w.heap.size ∧ ¬ wr G A k ∧ sv.ownBlock ≠ some k ∧ cv.ownBlock ≠ some k) : TB w0 w (fun k => R k ∨ X k) G A N cut bag sv cv sent came :=
  ⟨h.mine.moreR fun k hk => ⟨(hX k hk).1, (hX k hk).2.1⟩, h.s.moreR fun x hx hk => (hX x hk).2.2.1 hx, h.c.moreR fun x hx hk => (hX x hk).2.2.2 hx, fun k hk => .inl (h.base k hk), h.dis, h.ns, h.nc⟩
/-- What an append to the first row leaves. -/
theorem TB.put (h : TB w0 w R G A N cut bag sv cv sent came) {rs : List Raw} (ho : w.ownsRow w0.heap.size 33 3 sv sent.length (rs.flatMap Raw.cs)) (hms : MsgsAt R w rs sent) {r : Raw} {m : Msg} (hr : MsgAt R w r m) {o : Obj} {w9 : World} {v9 : Value}
    (hown : w9.ownsRow w0.heap.size 33 3 v9 (sent.length + 1) (rs.flatMap Raw.cs ++ r.cs)) (hgr : (w.alloc o).grownBy w9 sv.ownBlock) (hat : v9.ownBlock = sv.ownBlock ∨ v9.ownBlock = some (w.alloc o).heap.size) :
    TB w0 w9 R G A N cut bag v9 cv (sent ++ [m]) came := by
  have hb := (Below.refl w.heap.size w).alloc (Nat.le_refl _) o
  have ha := h.below hb
  have hoa := own_below0 ho hb
  have hfar : Far (fun x => sv.ownBlock = some x) (w.alloc o) w9 := Far.grown hgr fun x ex => ex
  have hu : Upd (fun x => sv.ownBlock = some x) R R (w.alloc o) w9 := ⟨hfar, fun x ex => h.s.off x ex, fun _ h => h, fun _ h => .inl h, fun x hx => Nat.lt_of_lt_of_le (ha.mine.net.lt x hx) hfar.size⟩
  have hua : Upd (fun _ => False) R R w (w.alloc o) := Upd.of_below h.mine.net.lt hb
  have hnew : ∀ x, v9.ownBlock = some x → sv.ownBlock = some x ∨ (w.alloc o).heap.size ≤ x := fun x ex => by
    rcases hat with hat | hat
    · exact .inl (hat.symm.trans ex)
    · have := Option.some.inj (hat.symm.trans ex); exact .inr (by omega)
  refine ⟨⟨ha.mine.net.upd hu fun x hx ex => h.ns x ex hx, ha.mine.below.trans (hfar.below (fun x ex => (ho.lt x ex).1) ha.mine.below.size), h.mine.low⟩, ⟨⟨rs ++ [r], ?_, ?_⟩, fun x ex hR => ?_⟩, ha.c.upd hu fun x hx ex => h.dis x ex hx, h.base, fun x ex hc => ?_, fun x ex hw => ?_, h.nc⟩
  · rw [List.flatMap_append, List.flatMap_singleton, List.length_append, List.length_singleton]; exact hown
  · exact ((hms.upd hua).upd hu).snoc ((hr.upd hua).upd hu)
  · rcases hnew x ex with h1 | h1
    · exact h.s.off x h1 hR
    · have := ha.mine.net.lt x hR; omega
  · rcases hnew x ex with h1 | h1
    · exact h.dis x h1 hc
    · have := (ha.c.lt hc).2; omega
  · rcases hnew x ex with h1 | h1
    · exact h.ns x h1 hw
    · have := ha.mine.net.wr_lt hw; omega
theorem TB.put_upd (h : TB w0 w R G A N cut bag sv cv sent came) {o : Obj} {w9 : World} (hgr : (w.alloc o).grownBy w9 sv.ownBlock) : Upd (fun x => sv.ownBlock = some x) R R w w9 := by
  have hb := (Below.refl w.heap.size w).alloc (Nat.le_refl _) o
  have hfar : Far (fun x => sv.ownBlock = some x) (w.alloc o) w9 := Far.grown hgr fun x ex => ex
  have hf2 := (Far.of_below (S := fun x => sv.ownBlock = some x) hb).trans hfar fun _ _ h => h
  exact ⟨hf2, fun x ex => h.s.off x ex, fun _ h => h, fun _ h => .inl h, fun x hx => Nat.lt_of_lt_of_le (h.mine.net.lt x hx) hf2.size⟩
theorem TB.own (h : TB w0 w R G A N cut bag sv cv sent came) {B : Nat} {m : Msg} {Am : Option Addr} {cm : Nat} (ho : Own w B m Am cm) {g : Nat} (hg : g < w.heap.size) (hgw : ¬ wr G A g) (hgs : sv.ownBlock ≠ some g) (hgc : cv.ownBlock ≠ some g) (hle : m.bs.length ≤ 1000000000) :
    TB w0 w (fun k => R k ∨ (k = g ∨ (Value.slice Am m.bs.length cm).ownBlock = some k)) G A N cut bag sv cv sent came ∧ MsgAt (fun k => R k ∨ (k = g ∨ (Value.slice Am m.bs.length cm).ownBlock = some k)) w ⟨m.f, m.t, Am, m.bs.length, cm⟩ m := by
  refine ⟨h.moreR fun k hk => ?_, rfl, rfl, rfl, hle, rd_own ho.row fun k hk => .inr (.inr hk)⟩
  rcases hk with rfl | hk
  · exact ⟨hg, hgw, hgs, hgc⟩
  · obtain ⟨rs, hs, _⟩ := h.s.ex
    obtain ⟨rc, hc, _⟩ := h.c.ex
    have h1 := h.mine.net.not_wr ho.row (by decide) (by decide) hk
    exact ⟨h1.1, h1.2, own_own_ne ho.row hs (by decide) hk, own_own_ne ho.row hc (by decide) hk⟩

/-! What the calls may answer. -/
theorem sendP_or (N : Int) (cut : Nat → Nat → Bool) (bag : List Msg) (a b : Int) (bs : List Int) : sendP N cut bag a b bs = (0, bag ++ [⟨a, b, bs⟩]) ∨ ∃ e, e ≠ 0 ∧ sendP N cut bag a b bs = (e, bag) := by
  unfold sendP
  split
  · exact .inr ⟨1, by decide, rfl⟩
  · split
    · exact .inr ⟨7, by decide, rfl⟩
    · split
      · exact .inr ⟨6, by decide, rfl⟩
      · split
        · exact .inr ⟨3, by decide, rfl⟩
        · exact .inl rfl
theorem delP_or (N : Int) (cut : Nat → Nat → Bool) (bag : List Msg) (i : Int) : (∃ k m, bag[k]? = some m ∧ delP N cut bag i = (m, 0, bag.eraseIdx k)) ∨ ∃ e, e ≠ 0 ∧ delP N cut bag i = (m0, e, bag) := by
  unfold delP
  cases h : atP bag i with
  | none => exact .inr ⟨4, by decide, rfl⟩
  | some m =>
    obtain ⟨k, rfl, hk, hkm⟩ := atP_some h
    simp only []
    split
    · exact .inl ⟨k, m, hkm, rfl⟩
    · exact .inr ⟨6, by decide, rfl⟩
theorem dropP_or (bag : List Msg) (i : Int) : (∃ k m, bag[k]? = some m ∧ dropP bag i = (0, bag.eraseIdx k)) ∨ ∃ e, e ≠ 0 ∧ dropP bag i = (e, bag) := by
  unfold dropP
  cases h : atP bag i with
  | none => exact .inr ⟨4, by decide, rfl⟩
  | some m =>
    obtain ⟨k, rfl, hk, hkm⟩ := atP_some h
    exact .inl ⟨k, m, hkm, rfl⟩
theorem dblP_or (bag : List Msg) (i : Int) : dblP bag i = (0, bag ++ [(atR bag i).1]) ∨ ∃ e, e ≠ 0 ∧ dblP bag i = (e, bag) := by
  unfold dblP atR
  cases h : atP bag i with
  | none => exact .inr ⟨4, by decide, rfl⟩
  | some m =>
    simp only []
    split
    · exact .inr ⟨3, by decide, rfl⟩
    · exact .inl rfl
theorem cnt_append (l r : List Msg) (m : Msg) : cntP (l ++ r) m = cntP l m + cntP r m := List.countP_append
theorem cnt_erase {l : List Msg} {k : Nat} {x : Msg} (h : l[k]? = some x) (m : Msg) : cntP l m = cntP (l.eraseIdx k) m + cntP [x] m := by
  obtain ⟨hk, rfl⟩ := List.getElem?_eq_some_iff.1 h
  rw [List.eraseIdx_eq_take_drop_succ, cnt_append, Nat.add_assoc]
  have h1 : l = l.take k ++ l[k] :: l.drop (k + 1) := by rw [← List.drop_eq_getElem_cons hk, List.take_append_drop]
  have h2 : cntP l m = cntP (l.take k ++ ([l[k]] ++ l.drop (k + 1))) m := by rw [List.singleton_append, ← h1]
  rw [h2, cnt_append, cnt_append]
  omega
end
end Go.Proofs.Ytfmflbcmigiciaa
