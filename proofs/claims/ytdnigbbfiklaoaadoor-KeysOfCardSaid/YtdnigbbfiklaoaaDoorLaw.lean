/- The law: KeysOf answers true. -/
import Derived.Test.YtdnigbbfiklaoaaDoorAlive
namespace Go.Proofs.YtdnigbbfiklaoaaDoor
open Go.RowKit
set_option maxHeartbeats 4000000 in
set_option maxRecDepth 100000 in
theorem keysOf_any (s t : List UInt8) (b : Bool) (w : World) (hkon : KonAt w) :
    Calls Tryd.prog 3 #[.string ⟨s.toArray⟩, .string ⟨t.toArray⟩, .bool b] w fun e w' => e = .returned (.bool true) ∧ Below w.heap.size w w' := by
  have HK := Lib.hid hkon; clear hkon
  obtain ⟨E1, hE1⟩ : ∃ E, E = Sha.oneE s := ⟨_, rfl⟩
  obtain ⟨E2, hE2⟩ : ∃ E, E = Sha.twoE s t := ⟨_, rfl⟩
  obtain ⟨E3, hE3⟩ : ∃ E, E = Sha.oneE t := ⟨_, rfl⟩
  obtain ⟨A, hA⟩ : ∃ E, E = Sha.trK s := ⟨_, rfl⟩
  obtain ⟨B, hB⟩ : ∃ E, E = Sha.trI s := ⟨_, rfl⟩
  obtain ⟨C, hC⟩ : ∃ E, E = Sha.fin s t := ⟨_, rfl⟩
  obtain ⟨D, hD⟩ : ∃ E, E = Sha.nxt s := ⟨_, rfl⟩
  obtain ⟨F, hF⟩ : ∃ E, E = Sha.prf b t := ⟨_, rfl⟩
  have k1 : ∀ w, KonAt w → Calls Tryd.prog 6 #[.string ⟨s.toArray⟩] w fun e w' => e = .returned (.tuple #[.agg #[.string ⟨A.toArray⟩, .string ⟨B.toArray⟩], .int .i64 E1]) ∧ Below w.heap.size w w' := fun w hk => by rw [hA, hB, hE1]; exact pTraffic_all s w hk
  have k2 : ∀ w, Calls Tryd.prog 7 #[.string ⟨s.toArray⟩] w fun e w' => e = .returned (.tuple #[.agg #[.string ⟨A.toArray⟩, .string ⟨B.toArray⟩], .int .i64 E1]) ∧ Below w.heap.size w w' := fun w => by rw [hA, hB, hE1]; exact rTraffic_all s w
  have k3 : ∀ w, KonAt w → Calls Tryd.prog 8 #[.string ⟨s.toArray⟩, .string ⟨t.toArray⟩] w fun e w' => e = .returned (.tuple #[.string ⟨C.toArray⟩, .int .i64 E2]) ∧ Below w.heap.size w w' := fun w hk => by rw [hC, hE2]; exact pFinished_all s t w hk
  have k4 : ∀ w, Calls Tryd.prog 9 #[.string ⟨s.toArray⟩, .string ⟨t.toArray⟩] w fun e w' => e = .returned (.tuple #[.string ⟨C.toArray⟩, .int .i64 E2]) ∧ Below w.heap.size w w' := fun w => by rw [hC, hE2]; exact rFinished_all s t w
  have k5 : ∀ w, KonAt w → Calls Tryd.prog 10 #[.string ⟨s.toArray⟩] w fun e w' => e = .returned (.tuple #[.string ⟨D.toArray⟩, .int .i64 E1]) ∧ Below w.heap.size w w' := fun w hk => by rw [hD, hE1]; exact pNext_all s w hk
  have k6 : ∀ w, Calls Tryd.prog 11 #[.string ⟨s.toArray⟩] w fun e w' => e = .returned (.tuple #[.string ⟨D.toArray⟩, .int .i64 E1]) ∧ Below w.heap.size w w' := fun w => by rw [hD, hE1]; exact rNext_all s w
  have k7 : ∀ w, Calls Tryd.prog 12 #[.bool b, .string ⟨t.toArray⟩] w fun e w' => e = .returned (.tuple #[.string ⟨F.toArray⟩, .int .i64 E3]) ∧ Below w.heap.size w w' := fun w => by rw [hF, hE3]; exact pProof_all b t w
  have k8 : ∀ w, Calls Tryd.prog 13 #[.bool b, .string ⟨t.toArray⟩] w fun e w' => e = .returned (.tuple #[.string ⟨F.toArray⟩, .int .i64 E3]) ∧ Below w.heap.size w w' := fun w => by rw [hF, hE3]; exact rProof_all b t w
  clear hE1 hE2 hE3 hA hB hC hD hF
  go_enter Tryd.func3, Tryd.ntmps3
  go_wp2_with fail
  refine (small_any [s, t] w.heap.size _ (by simp) (fun j hj => ?_) 2 rfl).mono ?_
  · rw [cell_new _ _ _ _ _ rfl]
    have hj : j < 2 := hj
    obtain rfl | rfl : j = 0 ∨ j = 1 := by omega
    · rfl
    · rfl
  · rintro e w1 ⟨he, hw1⟩
    have hb1 : Below w.heap.size w w1 := by rw [hw1]; exact (Below.refl _ _).alloc (Nat.le_refl _) _
    clear hw1
    rcases he with rfl | rfl
    · go_wp2_with fail
      refine (k1 _ (HK.out.below hb1)).mono ?_
      rintro e w2 ⟨rfl, hb2⟩
      have hb2 := hb1.trans (hb2.mono hb1.size)
      go_wp2_with fail
      obtain ⟨w3, hw3⟩ : ∃ w3, w3 = w2.alloc (Obj.cells #[.string ⟨A.toArray⟩, .string ⟨B.toArray⟩] 25) := ⟨_, rfl⟩
      have hb3 : Below w.heap.size w w3 := by rw [hw3]; exact hb2.alloc hb2.size _
      have hr3 : w3.heap[w2.heap.size]? = some (.cells #[.string ⟨A.toArray⟩, .string ⟨B.toArray⟩] 25 (0, 0)) := by rw [hw3]; exact heap_eq _ _ _ rfl
      rw [← hw3]
      clear hw3
      refine (k2 _).mono ?_
      rintro e w4 ⟨rfl, hb4⟩
      have hr4 := (hb4.block _ (lt_of_block hr3)).trans hr3
      have hb4 := hb3.trans (hb4.mono hb3.size)
      clear hr3
      go_wp2_with fail
      obtain ⟨w5, hw5⟩ : ∃ w5, w5 = w4.alloc (Obj.cells #[.string ⟨A.toArray⟩, .string ⟨B.toArray⟩] 25) := ⟨_, rfl⟩
      have hb5 : Below w.heap.size w w5 := by rw [hw5]; exact hb4.alloc hb4.size _
      have hr5 : w5.heap[w2.heap.size]? = some (.cells #[.string ⟨A.toArray⟩, .string ⟨B.toArray⟩] 25 (0, 0)) := by rw [hw5]; exact (heap_lt _ _ _ (lt_of_block hr4)).trans hr4
      have hq5 : w5.heap[w4.heap.size]? = some (.cells #[.string ⟨A.toArray⟩, .string ⟨B.toArray⟩] 25 (0, 0)) := by rw [hw5]; exact heap_eq _ _ _ rfl
      rw [← hw5]
      clear hw5 hr4
      refine (k3 _ (HK.out.below hb5)).mono ?_
      rintro e w6 ⟨rfl, hb6⟩
      have hr6 := (hb6.block _ (lt_of_block hr5)).trans hr5
      have hq6 := (hb6.block _ (lt_of_block hq5)).trans hq5
      have hb6 := hb5.trans (hb6.mono hb5.size)
      clear hr5 hq5
      go_wp2_with fail
      refine (k4 _).mono ?_
      rintro e w7 ⟨rfl, hb7⟩
      have hr7 := (hb7.block _ (lt_of_block hr6)).trans hr6
      have hq7 := (hb7.block _ (lt_of_block hq6)).trans hq6
      have hb7 := hb6.trans (hb7.mono hb6.size)
      clear hr6 hq6
      have c0 : w7.cell? ⟨w2.heap.size, 0, none⟩ = some (.string ⟨A.toArray⟩) := cell_of_row w7 _ 0 _ _ _ hr7
      have c1 : w7.cell? ⟨w2.heap.size, 1, none⟩ = some (.string ⟨B.toArray⟩) := cell_of_row w7 _ 1 _ _ _ hr7
      have d0 : w7.cell? ⟨w4.heap.size, 0, none⟩ = some (.string ⟨A.toArray⟩) := cell_of_row w7 _ 0 _ _ _ hq7
      have d1 : w7.cell? ⟨w4.heap.size, 1, none⟩ = some (.string ⟨B.toArray⟩) := cell_of_row w7 _ 1 _ _ _ hq7
      clear hr7 hq7
      go_wp2_with fail
      refine (k5 _ (HK.out.below hb7)).mono ?_
      rintro e w8 ⟨rfl, hb8⟩
      have hb8 := hb7.trans (hb8.mono hb7.size)
      clear c0 c1 d0 d1
      go_wp2_with fail
      refine (k6 _).mono ?_
      rintro e w9 ⟨rfl, hb9⟩
      have hb9 := hb8.trans (hb9.mono hb8.size)
      go_wp2_with fail
      refine (k7 _).mono ?_
      rintro e w10 ⟨rfl, hb10⟩
      have hb10 := hb9.trans (hb10.mono hb9.size)
      go_wp2_with fail
      refine (k8 _).mono ?_
      rintro e w11 ⟨rfl, hb11⟩
      have hb11 := hb10.trans (hb11.mono hb10.size)
      go_wp2_with fail
      refine (alive_any _ (HK.out.below hb11)).mono ?_
      rintro e w12 ⟨rfl, hb12⟩
      go_wp2_with fail
      go_ret
      exact ⟨rfl, hb11.trans (hb12.mono hb11.size)⟩
    · go_wp2_with fail
      refine (alive_any _ (HK.out.below hb1)).mono ?_
      rintro e w2 ⟨rfl, hb2⟩
      go_wp2_with fail
      go_ret
      exact ⟨rfl, hb1.trans (hb2.mono hb1.size)⟩
end Go.Proofs.YtdnigbbfiklaoaaDoor
