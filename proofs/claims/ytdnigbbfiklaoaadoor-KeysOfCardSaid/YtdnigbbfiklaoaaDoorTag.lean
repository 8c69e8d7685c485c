/- The program's HMAC. -/
import Derived.Test.YtdnigbbfiklaoaaDoorRepeat
import Derived.Test.YtdnigbbfiklaoaaDoorHmacSpec
namespace Go.Proofs.YtdnigbbfiklaoaaDoor
open Go.RowKit
theorem x8_comm (x y : UInt8) : U.x8 x y = U.x8 y x := UInt8.xor_comm x y
theorem x8_zero (y : UInt8) : U.x8 0 y = y := UInt8.zero_xor
theorem padK_of (K : List UInt8) (c : UInt8) : K.map (fun x => U.x8 c x) ++ List.replicate (64 - K.length) c = Sha.padK K c := by
  rw [Sha.padK_eq, List.map_append, List.map_replicate, x8_zero]
  congr 1
  exact List.map_congr_left fun x _ => x8_comm c x
set_option maxHeartbeats 4000000 in
set_option maxRecDepth 100000 in
theorem pad_any (K : List UInt8) (c : UInt8) (kb : Nat) (w : World) (hK : K.length ≤ 64) (hk : w.cell? ⟨kb, 0, none⟩ = some (.string ⟨K.toArray⟩)) :
    Calls Tryd.prog 30 #[.int .u8 c.toNat, .pointer (some ⟨kb, 0, none⟩)] w fun e w' => e = .returned (.string ⟨(Sha.padK K c).toArray⟩) ∧ Below w.heap.size w w' := by
  obtain ⟨i, bt⟩ := btinfo
  have hkl : kb < w.heap.size := block_lt_of_cell hk
  go_enter Tryd.func30, Tryd.ntmps30
  go_wp2_with fail
  have hlit : OwnB (w.alloc (.cells #[.int .u8 (c.toNat : Int)] 5)) w.heap.size (some ⟨w.heap.size, 0, none⟩) 1 [c] :=
    Own.laid (fr := (0, 0)) (heap_alloc_last w _) (.inr (Nat.le_refl _)) (Nat.le_refl _) (by simp [bts]) (Nat.le_refl _) (by simp only [maxLen]; omega) (by simp) (fun j hj => by simp [bts])
  refine (repeat_any c _ _ 1 _ hlit).mono ?_
  rintro e w2 ⟨rfl, h2, hb2⟩
  have hb02 : Below w.heap.size w w2 := ((Below.refl _ _).alloc (Nat.le_refl _) _).trans (hb2.mono (by simp))
  have hk2 : w2.cell? ⟨kb, 0, none⟩ = some (.string ⟨K.toArray⟩) := by rw [hb02.cell (p := ⟨kb, 0, none⟩) hkl]; exact hk
  obtain ⟨G, hG⟩ : ∃ G, G = (w.alloc (.cells #[.int .u8 (c.toNat : Int)] 5)).heap.size := ⟨_, rfl⟩
  rw [← hG] at h2 hb2 ⊢
  have hGe : w.heap.size ≤ G := by rw [hG]; simp
  clear hG
  go_wp2_with fail
  go_loopw [5, 11] (fun _ i wr => ∃ j : Nat, j ≤ K.length ∧ i = .int .i64 j ∧ OwnB wr G (some ⟨G, 0, none⟩) 64 ((K.take j).map (fun x => U.x8 c x) ++ List.replicate (64 - j) c) ∧ Below w.heap.size w wr)
    (fun _ i _ => ((K.length : Int) - intOf i).toNat)
  case atStart => exact ⟨0, by omega, rfl, by simpa using h2, hb02⟩
  case round =>
    clear h2 hk2 hb02
    obtain ⟨j, hj, rfl, h3, hb3⟩ := hrel
    have hl3 : ((K.take j).map (fun x => U.x8 c x)).length = j := by simp; omega
    have hl4 : ((K.take j).map (fun x => U.x8 c x) ++ List.replicate (64 - j) c).length = 64 := by rw [List.length_append, hl3, List.length_replicate]; omega
    by_cases hlt : j < K.length
    · have d1 : wr.cell? ⟨kb, 0, none⟩ = some (.string ⟨K.toArray⟩) := by rw [hb3.cell (p := ⟨kb, 0, none⟩) hkl]; exact hk
      have c1 := h3.cell (j := j) (by omega)
      have f1 := h3.free (j := j) (by omega)
      have e1 : ((K.take j).map (fun x => U.x8 c x) ++ List.replicate (64 - j) c).getD j 0 = c := by
        simp only [List.getD]
        rw [List.getElem?_append_right (by omega), hl3, Nat.sub_self, List.getElem?_replicate, if_pos (by omega)]; rfl
      rw [e1, Nat.zero_add] at c1
      rw [Nat.zero_add] at f1
      have q5 : (j : Int) < (K.length : Int) := by omega
      have q6 : (j : Int) < 64 := by omega
      have HL3 := Lib.hid hl3; clear hl3
      have HL4 := Lib.hid hl4; clear hl4
      clear e1
      go_wp2_with fail
      refine wp_region_still_tail 9 (by kernel_rfl) (by kernel_rfl) ?_
      simp only [List.take_succ_cons, List.take_zero, List.drop_succ_cons, List.drop_zero]
      repeat still_step
      refine wpStill_nil ?_
      go_wp2_with fail
      go_roundw
      case rel =>
        refine ⟨j + 1, by omega, by go_num, ?_, (hb3.setCell (by simpa using hGe) _).drew⟩
        have := h3.set j (U.x8 c K[j]) (by rw [HL4.out]; omega)
        have e := Sha.set_fill ((K.take j).map (fun x => U.x8 c x)) (64 - j) c (U.x8 c K[j]) (by omega)
        rw [HL3.out] at e
        rw [Nat.zero_add, e] at this
        rw [List.take_succ_eq_append_getElem hlt, List.map_append, show 64 - (j + 1) = 64 - j - 1 by omega]
        exact Own.drew this
      case measure => simp [intOf]; omega
    · have hjK : j = K.length := by omega
      subst hjK
      rw [List.take_of_length_le (Nat.le_refl _), padK_of] at h3
      clear hl3 hl4 hlt
      go_wp2_with (first
        | (refine wpList_bs bt rfl _ rfl G _ _ _ (Sha.padK K c) rfl (by rw [Sha.len_padK K c hK]) h3 ?_))
      go_ret
      exact ⟨rfl, hb3⟩
set_option maxHeartbeats 4000000 in
set_option maxRecDepth 100000 in
theorem tag_any (k s : List UInt8) (w : World) (hk : k.length ≤ 100000) (hs : s.length ≤ 100000) (hkon : KonAt w) :
    Calls Tryd.prog 20 #[.string ⟨k.toArray⟩, .string ⟨s.toArray⟩] w fun e w' => e = .returned (.string ⟨(Sha.hmac k s).toArray⟩) ∧ Below w.heap.size w w' := by
  have hKl := Sha.len_keyOf k
  have hkn : ∀ W, Below w.heap.size w W → KonAt W := fun W hW => hkon.below hW
  have HK := Lib.hid hkn; clear hkn hkon
  go_enter Tryd.func20, Tryd.ntmps20
  go_upto_if 8 with fail
  go_cut [] (fun wx => wx.cell? ⟨w.heap.size, 0, none⟩ = some (.string ⟨(Sha.keyOf k).toArray⟩) ∧ Below w.heap.size w wx ∧ w.heap.size < wx.heap.size)
  case first =>
    by_cases hk64 : k.length ≤ 64
    · have hfin : Sha.keyOf k = k := Sha.keyOf_short k hk64
      have HF := Lib.hid hfin; clear hfin
      have hd : ¬ (64 < k.length) := by omega
      go_wp2_with fail
      go_meet
      case rel => exact ⟨by rw [HF.out, World.cell?_alloc_new]; rfl, (Below.refl _ _).alloc (Nat.le_refl _) _, by simp⟩
    · have hfin : Sha.keyOf k = Sha.sha k := Sha.keyOf_long k hk64
      have HF := Lib.hid hfin; clear hfin
      have hd : 64 < k.length := by omega
      go_wp2_with fail
      refine (pOf_any k _ (by omega) (HK.out _ ((Below.refl _ _).alloc (Nat.le_refl _) _))).mono ?_
      rintro e w1 ⟨rfl, hb1⟩
      have hh : w1.heap[w.heap.size]? = some (.cells #[.string ⟨k.toArray⟩] 9 (0, 0)) := by rw [hb1.block _ (by simp)]; exact heap_alloc_last w _
      have c1 : w1.cell? ⟨w.heap.size, 0, none⟩ = some (.string ⟨k.toArray⟩) := by rw [cell_of_row w1 _ 0 _ _ _ hh]; rfl
      have f1 : w1.frozen? ⟨w.heap.size, 0, none⟩ = false := by simp [World.frozen?, hh]
      have hb01 : Below w.heap.size w w1 := ((Below.refl _ _).alloc (Nat.le_refl _) _).trans (hb1.mono (by simp))
      have hsz1 := hb1.size
      clear hh
      go_wp2_with fail
      go_meet
      case rel => exact ⟨by rw [HF.out]; exact World.cell?_setCell_same _ _ _ c1, hb01.setCell (Nat.le_refl _) _, by simp at hsz1 ⊢; omega⟩
  case rest =>
  obtain ⟨hc, hbc, hsz⟩ := hcut
  have hl36 := Sha.len_padK (Sha.keyOf k) 54 hKl
  have hl5c := Sha.len_padK (Sha.keyOf k) 92 hKl
  have H36 := Lib.hid hl36; clear hl36
  have H5c := Lib.hid hl5c; clear hl5c
  have q1 : ¬ (9223372036854775807 < (Sha.padK (Sha.keyOf k) 54).length + s.length) := by rw [H36.out]; omega
  have q2 : ∀ x : List UInt8, ¬ (9223372036854775807 < (Sha.padK (Sha.keyOf k) 92).length + (Sha.sha x).length) := fun x => by rw [H5c.out, Sha.len_sha]; omega
  go_wp2_with fail
  refine (pad_any (Sha.keyOf k) 92 w.heap.size wc hKl hc).mono ?_
  rintro e w1 ⟨rfl, hb1⟩
  have hc1 : w1.cell? ⟨w.heap.size, 0, none⟩ = some (.string ⟨(Sha.keyOf k).toArray⟩) := by rw [hb1.cell (p := ⟨w.heap.size, 0, none⟩) hsz]; exact hc
  have hb01 := hbc.trans (hb1.mono hbc.size)
  go_wp2_with fail
  refine (pad_any (Sha.keyOf k) 54 w.heap.size w1 hKl hc1).mono ?_
  rintro e w2 ⟨rfl, hb2⟩
  have hb02 := hb01.trans (hb2.mono hb01.size)
  go_wp2_with fail
  refine (pOf_any (Sha.padK (Sha.keyOf k) 54 ++ s) _ (by rw [List.length_append, H36.out]; omega) (HK.out _ hb02)).mono ?_
  rintro e w3 ⟨rfl, hb3⟩
  have hb03 := hb02.trans (hb3.mono hb02.size)
  go_wp2_with fail
  refine (pOf_any (Sha.padK (Sha.keyOf k) 92 ++ Sha.sha (Sha.padK (Sha.keyOf k) 54 ++ s)) _ (by rw [List.length_append, H5c.out, Sha.len_sha]; omega) (HK.out _ hb03)).mono ?_
  rintro e w4 ⟨rfl, hb4⟩
  go_wp2_with fail
  go_ret
  exact ⟨by rw [Sha.hmac_eq]; rfl, hb03.trans (hb4.mono hb03.size)⟩
end Go.Proofs.YtdnigbbfiklaoaaDoor
