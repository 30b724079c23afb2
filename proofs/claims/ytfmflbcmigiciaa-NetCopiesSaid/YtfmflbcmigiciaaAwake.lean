/- Chapter 05: the chapter's examples. -/
import Derived.Test.YtfmflbcmigiciaaSame
import Derived.Lib.SlBytesConst
namespace Go.Proofs.Ytfmflbcmigiciaa
open Go.RowKit

def cutA : Nat → Nat → Bool := fun _ _ => false
def cutB : Nat → Nat → Bool := cutP 3 cutA 3 1 true
def cutC : Nat → Nat → Bool := cutP 3 cutB 1 3 false
def mA : Msg := ⟨1, 2, [97]⟩
def mB : Msg := ⟨1, 3, [98]⟩
theorem ex1 : sendP 3 cutA [] 1 2 [97] = (0, [mA]) := by decide
theorem ex2 : sendP 3 cutA [mA] 1 3 [98] = (0, [mA, mB]) := by decide
theorem ex3 : atR [mA, mB] 1 = (mB, 0) := by decide
theorem ex4 : delP 3 cutA [mA, mB] 0 = (mA, 0, [mB]) := by decide
theorem ex5 : delP 3 cutB [mB] 0 = (m0, 6, [mB]) := by decide
theorem ex6 : sendP 3 cutB [mB] 1 3 [] = (6, [mB]) := by decide
theorem ex7 : dblP [mB] 0 = (0, [mB, mB]) := by decide
theorem ex8 : findP 3 cutC ([mB, mB].map fun m => (m.f, m.t)) 3 1 = some 1 := by decide
theorem ex9 : sendP 3 cutC [mB, mB] 1 1 [] = (1, [mB, mB]) := by decide
theorem blk_upd {S R R' : Nat → Prop} {w w' : World} {g : Nat} {t : TypeId} {cs : Array Value} (h : Blk w g t cs) (hu : Upd S R R' w w') (hg : R g) : Blk w' g t cs := h.far_ hu.far (fun hS => hu.off _ hS hg)
theorem one_byte (W : World) (b : Int) : BR (W.alloc (.cells #[.int .u8 b] 5 (1, 2))) (W.alloc (.cells #[.int .u8 b] 5 (1, 2))).heap.size (some ⟨W.heap.size, 0, none⟩) [b] := by
  refine ⟨rfl, fun _ => ⟨_, rfl, by simp, fun j u hu => ?_⟩⟩
  have hj : j = 0 := by have := (List.getElem?_eq_some_iff.1 hu).1; simp at this; omega
  subst hj
  simp only [List.map_cons, List.getElem?_cons_zero, Option.some.injEq] at hu
  subst hu
  rw [Addr.add_lit]
  have h1 := World.alloc_heap_new W (.cells #[Value.int .u8 b] 5 (1, 2))
  simp only [World.cell?, h1]
  rfl

set_option maxRecDepth 100000 in
set_option maxHeartbeats 4000000 in
theorem awake_any (w : World) : Calls Try.prog 8 #[] w fun e w' => e = .returned (.bool true) ∧ Below w.heap.size w w' := by
  have hcv := fun (w : World) (C : Array Value) (n c : Nat) => Lib.run_convert_bytes_const (P := Try.prog) w 24 5 C n c Try.underlying24 (by kernel_rfl)
  go_enter Try.func8, Try.ntmps8
  go_wp2_with fail
  refine (c_new 3 w (fun _ => False) (fun _ h => h.elim) (by decide) (by decide)).mono ?_
  rintro e w1 ⟨rfl, hM, -, -⟩
  unfold gp
  have M1 : Hid (Mine w w1 (fun _ => False) w.heap.size none 3 cutA []) := Lib.hid hM
  clear hM
  go_wp2_with fail
  -- Send 1 2 "a"
  have hb := (Below.refl w1.heap.size w1).alloc (Nat.le_refl _) (.cells #[.int .u8 97] 5 (1, 2))
  obtain ⟨hM, -⟩ := M1.out.under hb
  have C := c_send hM.net 1 2 [97] (some ⟨w1.heap.size, 0, none⟩) 1 (one_byte w1 97)
  rw [ex1] at C
  have M := Lib.hid hM
  clear hM hb M1
  refine C.mono ?_
  rintro e w2 ⟨rfl, hn⟩
  obtain ⟨R2, A2, hM, -, -⟩ := M.out.next hn
  have M2 := Lib.hid hM
  clear hM hn C M
  go_wp2_with fail
  -- Send 1 3 "b"
  have hb := (Below.refl w2.heap.size w2).alloc (Nat.le_refl _) (.cells #[.int .u8 98] 5 (1, 2))
  obtain ⟨hM, -⟩ := M2.out.under hb
  have C := c_send hM.net 1 3 [98] (some ⟨w2.heap.size, 0, none⟩) 1 (one_byte w2 98)
  rw [ex2] at C
  have M := Lib.hid hM
  clear hM hb M2
  refine C.mono ?_
  rintro e w3 ⟨rfl, hn⟩
  obtain ⟨R3, A3, hM, -, -⟩ := M.out.next hn
  have M3 := Lib.hid hM
  clear hM hn C M
  go_wp2_with fail
  -- At 1
  have C := c_at M3.out.net 1
  rw [ex3] at C
  refine C.mono ?_
  rintro e w4 ⟨Ax, cx, rfl, hb, -⟩
  obtain ⟨hM, -⟩ := M3.out.under hb
  have M4 := Lib.hid hM
  unfold msgV mB
  have hsz4 := hb.size
  clear hM hb C M3
  go_wp2_with fail
  -- the message x in a block of its own; Deliver 0
  obtain ⟨W5, hW5⟩ : ∃ W5, W5 = w4.alloc (.cells #[.int .i64 1, .int .i64 3, .slice Ax 1 cx] 33) := ⟨_, rfl⟩
  have hb : Below w4.heap.size w4 W5 := by rw [hW5]; exact (Below.refl _ _).alloc (Nat.le_refl _) _
  have kx : Blk W5 w4.heap.size 33 #[.int .i64 1, .int .i64 3, .slice Ax 1 cx] := by rw [hW5]; exact Blk.new _ _ _
  obtain ⟨hM, -⟩ := M4.out.under hb
  have hM := hM.moreR (X := fun k => k = w4.heap.size) (fun k hk => ⟨by rw [hk]; exact kx.lt, fun hwr => by have := M4.out.net.wr_lt hwr; omega⟩)
  rw [← hW5]
  have C := c_deliver hM.net 0
  rw [ex4] at C
  have M := Lib.hid hM
  have KX := Lib.hid kx
  have hs5 : w4.heap.size ≤ W5.heap.size := hb.size
  clear hM hb kx hW5 M4
  refine C.mono ?_
  rintro e w6 ⟨Ay, cy, rfl, ho, hn⟩
  obtain ⟨R6, A6, hM, hu, -⟩ := M.out.next hn
  have KX6 := Lib.hid (blk_upd KX.out hu (.inr rfl))
  have hRx := Lib.hid (hu.up _ (show (fun k => R3 k ∨ k = w4.heap.size) w4.heap.size from .inr rfl))
  have M6 := Lib.hid hM
  have HO := Lib.hid ho
  have hs6 := hu.far.size
  unfold msgV mA
  clear hM hn C M KX hu ho
  go_wp2_with fail
  obtain ⟨W7, hW7⟩ : ∃ W7, W7 = w6.alloc (.cells #[.int .i64 1, .int .i64 2, .slice Ay 1 cy] 33) := ⟨_, rfl⟩
  have hb : Below w6.heap.size w6 W7 := by rw [hW7]; exact (Below.refl _ _).alloc (Nat.le_refl _) _
  have ky : Blk W7 w6.heap.size 33 #[.int .i64 1, .int .i64 2, .slice Ay 1 cy] := by rw [hW7]; exact Blk.new _ _ _
  obtain ⟨hM, -⟩ := M6.out.under hb
  have ho7 := (HO.out.below hb).row
  have hM := hM.moreR (X := fun k => k = w6.heap.size ∨ (Value.slice Ay 1 cy).ownBlock = some k) (fun k hk => by
    rcases hk with hk | hk
    · exact ⟨by rw [hk]; exact ky.lt, fun hwr => by have := M6.out.net.wr_lt hwr; omega⟩
    · exact hM.net.not_wr ho7 (by decide) (by decide) hk)
  have hrd : RD (fun k => R6 k ∨ (k = w6.heap.size ∨ (Value.slice Ay 1 cy).ownBlock = some k)) W7 1 Ay 1 [.int .u8 97] := rd_own ho7 (fun k hk => .inr (.inr hk))
  have RY7 := Lib.hid hrd
  have KX7 := Lib.hid (KX6.out.below hb KX6.out.lt)
  have KY7 := Lib.hid ky
  have M7 := Lib.hid hM
  have hs7 := hb.size
  rw [← hW7]
  clear hM hb ky ho7 hrd hW7 M6 HO KX6
  -- Len
  refine (c_len M7.out.net).mono ?_
  rintro e w8 ⟨rfl, hw⟩
  subst hw
  simp only [List.length_cons, List.length_nil]
  go_wp2_with fail
  -- Cut 3 1
  have C := c_cut M7.out.net 3 1
  rw [show (if twoB 3 3 1 = true then (0 : Int) else 1) = 0 by decide] at C
  refine C.mono ?_
  rintro e w9 ⟨rfl, hn⟩
  obtain ⟨R9, A9, hM, hu, -⟩ := M7.out.next hn
  have M9 : Hid (Mine w w9 R9 w.heap.size A9 3 cutB [mB]) := Lib.hid hM
  have KX9 := Lib.hid (blk_upd KX7.out hu (.inl hRx.out))
  have KY9 := Lib.hid (blk_upd KY7.out hu (.inr (.inl rfl)))
  have RY9 := Lib.hid (RY7.out.upd hu)
  have hRx9 := Lib.hid (hu.up _ (.inl hRx.out))
  have hRy9 := Lib.hid (hu.up _ (.inr (.inl rfl)))
  clear hM hn C hu M7 KX7 KY7 RY7 hRx
  go_wp2_with fail
  -- Deliver 0: down
  have C := c_deliver M9.out.net 0
  rw [ex5] at C
  refine C.mono ?_
  rintro e w10 ⟨Az, cz, rfl, -, hn⟩
  obtain ⟨R10, A10, hM, hu, -⟩ := M9.out.next hn
  have M10 := Lib.hid hM
  have KX10 := Lib.hid (blk_upd KX9.out hu hRx9.out)
  have KY10 := Lib.hid (blk_upd KY9.out hu hRy9.out)
  have RY10 := Lib.hid (RY9.out.upd hu)
  have hRx10 := Lib.hid (hu.up _ hRx9.out)
  have hRy10 := Lib.hid (hu.up _ hRy9.out)
  clear hM hn C hu M9 KX9 KY9 RY9 hRx9 hRy9
  unfold msgV m0
  go_wp2_with fail
  -- Send 1 3 nil: down
  have hb := (Below.refl w10.heap.size w10).alloc (Nat.le_refl _) (.cells #[.int .i64 0, .int .i64 0, .slice Az 0 cz] 33)
  obtain ⟨hM, hu⟩ := M10.out.under hb
  have KX11 := Lib.hid (blk_upd KX10.out hu hRx10.out)
  have KY11 := Lib.hid (blk_upd KY10.out hu hRy10.out)
  have RY11 := Lib.hid (RY10.out.upd hu)
  have C := c_send hM.net 1 3 [] none 0 Reads.none_
  have M11 := Lib.hid hM
  rw [ex6] at C
  have hRx11 := hRx10
  have hRy11 := hRy10
  clear hM hb hu M10 KX10 KY10 RY10 hRx10 hRy10
  refine C.mono ?_
  rintro e w12 ⟨rfl, hn⟩
  obtain ⟨R12, A12, hM, hu, -⟩ := M11.out.next hn
  have M12 : Hid (Mine w w12 R12 w.heap.size A12 3 cutB [mB]) := Lib.hid hM
  have KX12 := Lib.hid (blk_upd KX11.out hu hRx11.out)
  have KY12 := Lib.hid (blk_upd KY11.out hu hRy11.out)
  have RY12 := Lib.hid (RY11.out.upd hu)
  have hRx12 := Lib.hid (hu.up _ hRx11.out)
  have hRy12 := Lib.hid (hu.up _ hRy11.out)
  clear hM hn C hu M11 KX11 KY11 RY11 hRx11 hRy11
  go_wp2_with fail
  -- Heal 1 3
  have C := c_heal M12.out.net 1 3
  rw [show (if twoB 3 1 3 = true then (0 : Int) else 1) = 0 by decide] at C
  refine C.mono ?_
  rintro e w13 ⟨rfl, hn⟩
  obtain ⟨R13, A13, hM, hu, -⟩ := M12.out.next hn
  have M13 : Hid (Mine w w13 R13 w.heap.size A13 3 cutC [mB]) := Lib.hid hM
  have KX13 := Lib.hid (blk_upd KX12.out hu hRx12.out)
  have KY13 := Lib.hid (blk_upd KY12.out hu hRy12.out)
  have RY13 := Lib.hid (RY12.out.upd hu)
  have hRx13 := Lib.hid (hu.up _ hRx12.out)
  have hRy13 := Lib.hid (hu.up _ hRy12.out)
  clear hM hn C hu M12 KX12 KY12 RY12 hRx12 hRy12
  go_wp2_with fail
  -- Double 0
  have C := c_double M13.out.net 0
  rw [ex7] at C
  refine C.mono ?_
  rintro e w14 ⟨rfl, hn⟩
  obtain ⟨R14, A14, hM, hu, -⟩ := M13.out.next hn
  have M14 : Hid (Mine w w14 R14 w.heap.size A14 3 cutC [mB, mB]) := Lib.hid hM
  have KX14 := Lib.hid (blk_upd KX13.out hu hRx13.out)
  have KY14 := Lib.hid (blk_upd KY13.out hu hRy13.out)
  have RY14 := Lib.hid (RY13.out.upd hu)
  have hRx14 := Lib.hid (hu.up _ hRx13.out)
  have hRy14 := Lib.hid (hu.up _ hRy13.out)
  clear hM hn C hu M13 KX13 KY13 RY13 hRx13 hRy13
  go_wp2_with fail
  -- Find 3 1
  have C := c_find M14.out.net 3 1
  rw [ex8] at C
  refine C.mono ?_
  rintro e w15 ⟨rfl, hb⟩
  obtain ⟨hM, hu⟩ := M14.out.under hb
  have KX15 := Lib.hid (blk_upd KX14.out hu hRx14.out)
  have KY15 := Lib.hid (blk_upd KY14.out hu hRy14.out)
  have RY15 := Lib.hid (RY14.out.upd hu)
  have M15 := Lib.hid hM
  clear hM hb hu M14 KX14 KY14 RY14 hRx14 hRy14 C
  simp only [findV]
  have hk : ((1 : Nat) : Int) = 1 := rfl
  rw [hk]
  have x1 := KX15.out.cell 1
  have y2 := KY15.out.cell 2
  have xl := KX15.out.lt
  have yl := KY15.out.lt
  have cv : (convert 24 9 (.slice Ay 1 cy)).run Try.prog w15 = .ok (.string ⟨#[97]⟩) w15 := conv_str (l := [97]) RY15.out.1 cy
  have C := c_send M15.out.net 1 1 [] none 0 Reads.none_
  rw [ex9] at C
  have CC := Lib.hid C
  clear C hk hcv
  go_wp2_with fail
  refine CC.out.mono ?_
  rintro e w16 ⟨rfl, hn⟩
  obtain ⟨R16, A16, hM, -, -⟩ := M15.out.next hn
  have HB := Lib.hid hM.below
  clear hM hn CC M15 cv x1 y2
  go_wp2_with fail
  go_ret
  exact ⟨rfl, HB.out⟩
end Go.Proofs.Ytfmflbcmigiciaa
