/- The program's key schedule: Traffic. -/
import Derived.Test.YtdnigbbfiklaoaaDoorKeysFns
namespace Go.Proofs.YtdnigbbfiklaoaaDoor
open Go.RowKit
theorem OfAt.drew {w wl : World} {s : List UInt8} {B sb : Nat} (h : OfAt w wl s B sb) : OfAt w wl.drew s B sb := ⟨h.below.drew, h.base, h.size, h.e, h.sec, h.ptr⟩
set_option maxHeartbeats 4000000 in
set_option maxRecDepth 100000 in
theorem pTraffic_no (s : List UInt8) (w : World) (h : ¬ s.length = 32) :
    Calls Tryd.prog 6 #[.string ⟨s.toArray⟩] w fun e w' => e = .returned (.tuple #[.agg #[.string ⟨#[]⟩, .string ⟨#[]⟩], .int .i64 2]) ∧ Below w.heap.size w w' := by
  have hall : ([s].all fun s => s.length == 32) = false := by simpa using h
  go_enter Tryd.func6, Tryd.ntmps6
  go_wp2_with fail
  refine (whole_any [s] (w.heap.size + 1 + 1) _ (by simp) (fun j hj => ?_) 1 rfl).mono ?_
  · obtain rfl : j = 0 := by simpa using hj
    rw [cell_new _ _ _ _ _ (by simp)]; rfl
  · rintro e w1 ⟨rfl, hw1⟩
    rw [hall]
    go_wp2_with fail
    obtain ⟨wz, hwz⟩ : ∃ wz, wz = (((w.alloc (.cells #[.string ⟨#[]⟩, .string ⟨#[]⟩] 25)).alloc (.cells #[.int .i64 2] 26)).alloc (.cells #[.string ⟨s.toArray⟩] 9)) := ⟨_, rfl⟩
    have hbz : Below w.heap.size w wz := by rw [hwz]; exact (((Below.refl _ _).alloc (Nat.le_refl _) _).alloc (by simp) _).alloc (by simp; omega) _
    have c0 : wz.cell? ⟨w.heap.size, 0, none⟩ = some (.string ⟨#[]⟩) := by rw [hwz, cell_old _ _ _ _ (by simp; omega), cell_old _ _ _ _ (by simp), cell_new _ _ _ _ _ rfl]; rfl
    have c1 : wz.cell? ⟨w.heap.size, 1, none⟩ = some (.string ⟨#[]⟩) := by rw [hwz, cell_old _ _ _ _ (by simp; omega), cell_old _ _ _ _ (by simp), cell_new _ _ _ _ _ rfl]; rfl
    have c2 : wz.cell? ⟨w.heap.size + 1, 0, none⟩ = some (.int .i64 2) := by rw [hwz, cell_old _ _ _ _ (by simp), cell_new _ _ _ _ _ (by simp)]; rfl
    rw [← hwz]
    clear hwz
    refine bodyPost_ret (v := .tuple #[.agg #[.string ⟨#[]⟩, .string ⟨#[]⟩], .int .i64 2]) (by simp [results, Tryd.results6, go_sem, c0, c1, c2]) rfl ⟨rfl, hbz⟩
set_option maxHeartbeats 4000000 in
set_option maxRecDepth 100000 in
theorem pTraffic_any (s : List UInt8) (w : World) (h : s.length = 32) (hkon : KonAt w) :
    Calls Tryd.prog 6 #[.string ⟨s.toArray⟩] w fun e w' => e = .returned (.tuple #[.agg #[.string ⟨(Sha.label s Sha.nKey [] 32).toArray⟩, .string ⟨(Sha.label s Sha.nIv [] 12).toArray⟩], .int .i64 0]) ∧ Below w.heap.size w w' := by
  have hall : ([s].all fun s => s.length == 32) = true := by simpa using h
  have hkon' : KonAt (w.alloc (.cells #[.string ⟨#[]⟩, .string ⟨#[]⟩] 25)) := hkon.below ((Below.refl _ _).alloc (Nat.le_refl _) _)
  have HK := Lib.hid hkon'; clear hkon hkon'
  have H32 := Lib.hid h; clear h
  go_enter Tryd.func6, Tryd.ntmps6
  go_wp2_with fail
  refine (whole_any [s] (w.heap.size + 1 + 1) _ (by simp) (fun j hj => ?_) 1 rfl).mono ?_
  · obtain rfl : j = 0 := by simpa using hj
    rw [cell_new _ _ _ _ _ (by simp)]; rfl
  · rintro e w1 ⟨rfl, hw1⟩
    rw [hall]
    have hsz0 : (w.alloc (.cells #[.string ⟨#[]⟩, .string ⟨#[]⟩] 25)).heap.size = w.heap.size + 1 := by simp
    have hT0 := heap_alloc_last w (.cells #[.string ⟨#[]⟩, .string ⟨#[]⟩] 25)
    have hb0 : Below w.heap.size w (w.alloc (.cells #[.string ⟨#[]⟩, .string ⟨#[]⟩] 25)) := (Below.refl _ _).alloc (Nat.le_refl _) _
    go_wp2_with fail
    have hmk : ∀ w0 : World, w0.heap.size = w.heap.size + 1 → Calls Tryd.prog 17 #[.string ⟨s.toArray⟩, .pointer (some ⟨w.heap.size + 1, 0, none⟩)] ((w0.alloc (.cells #[.int .i64 0] 26)).alloc (.cells #[.string ⟨s.toArray⟩] 9)) fun e w' => ∃ sb, e = .returned (.func (.func 26) #[] #[.pointer (some ⟨sb, 0, none⟩), .pointer (some ⟨sb + 1, 0, none⟩)]) ∧ OfAt w0 w' s (w.heap.size + 1) sb := fun w0 h0 => by
      refine of_laid s (w.heap.size + 1) w0 _ (((Below.refl _ _).alloc (Nat.le_refl _) _).alloc (by simp) _) (by omega) ?_
      rw [heap_lt _ _ _ (by simp; omega), heap_eq _ _ _ h0.symm]
    refine (hmk _ hsz0).mono ?_
    rintro e wl ⟨sb, rfl, hat⟩
    clear hw1 hmk
    obtain ⟨w0, hw0⟩ : ∃ w0, w0 = w.alloc (.cells #[.string ⟨#[]⟩, .string ⟨#[]⟩] 25) := ⟨_, rfl⟩
    rw [← hw0] at hat hsz0 hT0 hb0
    have HK' : KonAt w0 := by rw [hw0]; exact HK.out
    clear hw0 HK
    have fE : ∀ W : World, OfAt w0 W s (w.heap.size + 1) sb → W.cell? ⟨w.heap.size + 1, 0, none⟩ = some (.int .i64 0) ∧ W.frozen? ⟨w.heap.size + 1, 0, none⟩ = false ∧ W.heap[w.heap.size]? = some (.cells #[.string ⟨#[]⟩, .string ⟨#[]⟩] 25 (0, 0)) := fun W hW =>
      ⟨by rw [cell_of_row W _ 0 _ _ _ hW.e]; rfl, by simp [World.frozen?, hW.e], (hW.below.block _ (by omega)).trans hT0⟩
    have FE := Lib.hid fE
    clear fE
    have cE := (FE.out _ hat).1
    have tok1 : True := trivial
    go_wp2_with fail
    go_region_with (first
      | (have _t := tok1
         go_at_call 26
         refine (OfAt.call (w := w0) (B := w.heap.size + 1) (sb := sb) ?_ Sha.nKey [] 32 H32.out (by decide) (by decide) (by decide) (by decide) HK').mono ?_
         exact hat.drew
         rintro e w2 ⟨rfl, hat2⟩
         have cE2 := (FE.out _ hat2).1
         clear tok1 _t)
      | (go_at_call 26
         refine (OfAt.call (w := w0) (B := w.heap.size + 1) (sb := sb) ?_ Sha.nIv [] 12 H32.out (by decide) (by decide) (by decide) (by decide) HK').mono ?_
         exact hat2
         rintro e w3 ⟨rfl, hat3⟩
         obtain ⟨cE3, fE3, hT3⟩ := FE.out _ hat3
         have t0 : w3.cell? ⟨w.heap.size, 0, none⟩ = some (.string ⟨#[]⟩) := by rw [cell_of_row w3 _ 0 _ _ _ hT3]; rfl
         have t1 : w3.cell? ⟨w.heap.size, 1, none⟩ = some (.string ⟨#[]⟩) := by rw [cell_of_row w3 _ 1 _ _ _ hT3]; rfl
         have ft0 : w3.frozen? ⟨w.heap.size, 0, none⟩ = false := by simp [World.frozen?, hT3]
         have ft1 : w3.frozen? ⟨w.heap.size, 1, none⟩ = false := by simp [World.frozen?, hT3]
         have HT3 := Lib.hid hT3; clear hT3))
    all_goals
      go_wp2_with fail
      have hT4 : (w3.setCell ⟨w.heap.size, 0, none⟩ (.string ⟨(Sha.label s Sha.nKey [] 32).toArray⟩)).heap[w.heap.size]? = some (.cells #[.string ⟨(Sha.label s Sha.nKey [] 32).toArray⟩, .string ⟨#[]⟩] 25 (0, 0)) := heap_setCell_same w3 _ 0 _ _ _ HT3.out
      have hT5 : ((w3.setCell ⟨w.heap.size, 0, none⟩ (.string ⟨(Sha.label s Sha.nKey [] 32).toArray⟩)).setCell ⟨w.heap.size, 1, none⟩ (.string ⟨(Sha.label s Sha.nIv [] 12).toArray⟩)).heap[w.heap.size]? = some (.cells #[.string ⟨(Sha.label s Sha.nKey [] 32).toArray⟩, .string ⟨(Sha.label s Sha.nIv [] 12).toArray⟩] 25 (0, 0)) := heap_setCell_same _ _ 1 _ _ _ hT4
      have hb3 : Below w.heap.size w w3 := hb0.trans (hat3.below.mono (by omega))
      have hb6 := ((hb3.setCell (p := ⟨w.heap.size, 0, none⟩) (Nat.le_refl _) (.string ⟨(Sha.label s Sha.nKey [] 32).toArray⟩)).setCell (p := ⟨w.heap.size, 1, none⟩) (Nat.le_refl _) (.string ⟨(Sha.label s Sha.nIv [] 12).toArray⟩)).setCell (p := ⟨w.heap.size + 1, 0, none⟩) (by simp) (.int .i64 0)
      have cE5 : ((w3.setCell ⟨w.heap.size, 0, none⟩ (.string ⟨(Sha.label s Sha.nKey [] 32).toArray⟩)).setCell ⟨w.heap.size, 1, none⟩ (.string ⟨(Sha.label s Sha.nIv [] 12).toArray⟩)).cell? ⟨w.heap.size + 1, 0, none⟩ = some (.int .i64 0) := by
        rw [World.cell?_setCell_other _ _ _ _ (by simp), World.cell?_setCell_other _ _ _ _ (by simp)]; exact cE3
      obtain ⟨w5, hw5⟩ : ∃ w5, w5 = (w3.setCell ⟨w.heap.size, 0, none⟩ (.string ⟨(Sha.label s Sha.nKey [] 32).toArray⟩)).setCell ⟨w.heap.size, 1, none⟩ (.string ⟨(Sha.label s Sha.nIv [] 12).toArray⟩) := ⟨_, rfl⟩
      rw [← hw5] at hT5 hb6 cE5 ⊢
      have d0 : (w5.setCell ⟨w.heap.size + 1, 0, none⟩ (.int .i64 0)).cell? ⟨w.heap.size, 0, none⟩ = some (.string ⟨(Sha.label s Sha.nKey [] 32).toArray⟩) := by
        rw [World.cell?_setCell_other _ _ _ _ (by simp), cell_of_row w5 _ 0 _ _ _ hT5]; rfl
      have d1 : (w5.setCell ⟨w.heap.size + 1, 0, none⟩ (.int .i64 0)).cell? ⟨w.heap.size, 1, none⟩ = some (.string ⟨(Sha.label s Sha.nIv [] 12).toArray⟩) := by
        rw [World.cell?_setCell_other _ _ _ _ (by simp), cell_of_row w5 _ 1 _ _ _ hT5]; rfl
      have d2 : (w5.setCell ⟨w.heap.size + 1, 0, none⟩ (.int .i64 0)).cell? ⟨w.heap.size + 1, 0, none⟩ = some (.int .i64 0) := World.cell?_setCell_same _ _ _ cE5
      refine bodyPost_ret (v := .tuple #[.agg #[.string ⟨(Sha.label s Sha.nKey [] 32).toArray⟩, .string ⟨(Sha.label s Sha.nIv [] 12).toArray⟩], .int .i64 0]) (by simp [results, Tryd.results6, go_sem, d0, d1, d2]) rfl ⟨rfl, hb6⟩
end Go.Proofs.YtdnigbbfiklaoaaDoor
