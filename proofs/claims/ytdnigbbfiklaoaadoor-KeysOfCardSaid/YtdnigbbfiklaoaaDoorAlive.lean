/- The law's own floor: alive. -/
import Derived.Test.YtdnigbbfiklaoaaDoorLawFns
namespace Go.Proofs.YtdnigbbfiklaoaaDoor
open Go.RowKit
theorem early_lit : early = Sha.litE := Sha.reckE
theorem hs_lit : hsOf zeros = Sha.litH := by
  rw [hsOf, early_lit, Sha.reckD]; exact Sha.reckH
set_option maxHeartbeats 4000000 in
set_option maxRecDepth 100000 in
theorem alive_any (w : World) (hkon : KonAt w) : Calls Tryd.prog 5 #[] w fun e w' => e = .returned (.bool true) ∧ Below w.heap.size w w' := by
  obtain ⟨i, bt⟩ := btinfo
  have HK := Lib.hid hkon; clear hkon
  obtain ⟨zz, hzz⟩ : ∃ z, z = zeros := ⟨_, rfl⟩
  have HZ := Lib.hid hzz
  have hz32 : zz.length = 32 := by rw [hzz]; exact len_zeros
  have HL := Lib.hid hz32
  obtain ⟨E, hE⟩ : ∃ E, E = early := ⟨_, rfl⟩
  obtain ⟨G, hG⟩ : ∃ G, G = hsOf zz := ⟨_, rfl⟩
  obtain ⟨C, hC⟩ : ∃ C, C = Sha.label (hsOf zz) Sha.nChs zz 32 := ⟨_, rfl⟩
  obtain ⟨S, hS⟩ : ∃ S, S = Sha.label (hsOf zz) Sha.nShs zz 32 := ⟨_, rfl⟩
  obtain ⟨R, hR⟩ : ∃ R, R = Sha.proof true zz := ⟨_, rfl⟩
  have hsh : ∀ w, KonAt w → Calls Tryd.prog 14 #[.string ⟨zz.toArray⟩, .string ⟨zz.toArray⟩] w fun e w' => e = .returned (.tuple #[.agg #[.string ⟨E.toArray⟩, .string ⟨G.toArray⟩, mt, .string ⟨C.toArray⟩, .string ⟨S.toArray⟩, mt, mt], .int .i64 0]) ∧ Below w.heap.size w w' := fun w hk => by
    rw [hE, hG, hC, hS]; exact pHandshake_any zz zz w hz32 hz32 hk
  have hea : ∀ w, KonAt w → Calls Tryd.prog 15 #[] w fun e w' => e = .returned (.string ⟨E.toArray⟩) ∧ Below w.heap.size w w' := fun w hk => by
    rw [hE]; exact early_any w hk
  have hpr : ∀ w, Calls Tryd.prog 12 #[.bool true, .string ⟨zz.toArray⟩] w fun e w' => e = .returned (.tuple #[.string ⟨R.toArray⟩, .int .i64 0]) ∧ Below w.heap.size w w' := fun w => by
    rw [hR]; exact pProof_any true zz w hz32
  have hno : ∀ w, Calls Tryd.prog 14 #[.string ⟨#[115, 104, 111, 114, 116]⟩, .string ⟨zz.toArray⟩] w fun e w' => e = .returned (.tuple #[.agg #[mt, mt, mt, mt, mt, mt, mt], .int .i64 2]) ∧ Below w.heap.size w w' :=
    fun w => pHandshake_no [115, 104, 111, 114, 116] zz w (fun h => absurd h.1 (by decide))
  have hlit : hsOf zz = Sha.litH := by rw [hzz]; exact hs_lit
  have e4 : (((⟨E.toArray⟩ : ByteArray).extract 0 4).toList == [51, 173, 10, 28]) = true := by rw [hE, early_lit]; decide +kernel
  have e32 : ((E.length : Int) == 32) = true := by rw [hE, len_early]; decide
  have l4 : 4 ≤ E.length := by rw [hE, len_early]; decide
  have c32 : ((C.length : Int) == 32) = true := by rw [hC, Sha.len_label _ _ _ _ (by decide)]; decide
  have hCl : C = Sha.litC := by rw [hC, hlit, hzz]; exact Sha.reckC
  have hSl : S = Sha.litS := by rw [hS, hlit, hzz]; exact Sha.reckS
  have hne : C ≠ S := by rw [hCl, hSl]; decide
  have r130 : ((R.length : Int) == 130) = true := by
    have : R.length = 130 := by rw [hR]; simp [Sha.proof, hz32]
    rw [this]; decide
  clear hE hG hC hS hR hlit hCl hSl
  have HNE := Lib.hid hne
  clear hzz hz32 hne
  go_enter Tryd.func5, Tryd.ntmps5
  go_wp2_with (first
    | (refine wpList_mk bt rfl _ _ rfl 32 .i64 .i64 32 rfl rfl rfl (by omega) ?_; intro w3 h3 hs3 hb3; replace h3 : OwnB w3 w.heap.size (some ⟨w.heap.size, 0, none⟩) 32 zz := by (rw [HZ.out]; exact h3))
    | (refine wpList_bs bt rfl _ rfl w.heap.size _ _ _ zz rfl (by rw [HL.out]) h3 ?_))
  refine (hsh _ (HK.out.below hb3)).mono ?_
  rintro e w4 ⟨rfl, hb4⟩
  have hb04 := hb3.trans (hb4.mono (by omega))
  clear h3 hs3 hb4
  go_wp2_with fail
  obtain ⟨w5, hw5⟩ : ∃ w5, w5 = w4.alloc (Obj.cells #[.string ⟨E.toArray⟩, .string ⟨G.toArray⟩, mt, .string ⟨C.toArray⟩, .string ⟨S.toArray⟩, mt, mt] 43) := ⟨_, rfl⟩
  have hb05 : Below w.heap.size w w5 := by rw [hw5]; exact hb04.alloc hb04.size _
  have hr5 : w5.heap[w4.heap.size]? = some (.cells #[.string ⟨E.toArray⟩, .string ⟨G.toArray⟩, mt, .string ⟨C.toArray⟩, .string ⟨S.toArray⟩, mt, mt] 43 (0, 0)) := by rw [hw5]; exact heap_eq _ _ _ rfl
  rw [← hw5]
  clear hw5
  refine (hno _).mono ?_
  rintro e w6 ⟨rfl, hb6⟩
  have hb06 := hb05.trans (hb6.mono hb05.size)
  have hr6 := (hb6.block _ (lt_of_block hr5)).trans hr5
  clear hr5 hb6
  go_wp2_with fail
  obtain ⟨w7, hw7⟩ : ∃ w7, w7 = w6.alloc (Obj.cells #[mt, mt, mt, mt, mt, mt, mt] 43) := ⟨_, rfl⟩
  have hb07 : Below w.heap.size w w7 := by rw [hw7]; exact hb06.alloc hb06.size _
  have hr7 : w7.heap[w4.heap.size]? = some (.cells #[.string ⟨E.toArray⟩, .string ⟨G.toArray⟩, mt, .string ⟨C.toArray⟩, .string ⟨S.toArray⟩, mt, mt] 43 (0, 0)) := by rw [hw7]; exact (heap_lt _ _ _ (lt_of_block hr6)).trans hr6
  rw [← hw7]
  clear hw7 hr6
  refine (hpr _).mono ?_
  rintro e w8 ⟨rfl, hb8⟩
  have hb08 := hb07.trans (hb8.mono hb07.size)
  have hr8 := (hb8.block _ (lt_of_block hr7)).trans hr7
  clear hr7 hb8
  go_wp2_with fail
  refine (hea _ (HK.out.below hb08)).mono ?_
  rintro e w9 ⟨rfl, hb9⟩
  have hb09 := hb08.trans (hb9.mono hb08.size)
  have hr9 := (hb9.block _ (lt_of_block hr8)).trans hr8
  clear hr8 hb9
  have c3 : w9.cell? ⟨w4.heap.size, 3, none⟩ = some (.string ⟨C.toArray⟩) := cell_of_row w9 _ 3 _ _ _ hr9
  have c4 : w9.cell? ⟨w4.heap.size, 4, none⟩ = some (.string ⟨S.toArray⟩) := cell_of_row w9 _ 4 _ _ _ hr9
  clear hr9 hsh hea hpr hno
  go_wp2_with fail
  have hcs : (C == S) = false := by simpa using HNE.out
  rw [hcs]
  go_ret
  exact ⟨rfl, hb09⟩
end Go.Proofs.YtdnigbbfiklaoaaDoor
