/- The program's key schedule: Next, Finished, Traffic. -/
import Derived.Test.YtdnigbbfiklaoaaDoorKeys
namespace Go.Proofs.YtdnigbbfiklaoaaDoor
open Go.RowKit
theorem cell_new (w : World) (cs : Array Value) (T : TypeId) (g j : Nat) (hg : g = w.heap.size) : (w.alloc (.cells cs T)).cell? ⟨g, j, none⟩ = cs[j]? := by
  subst hg; exact cell_of_row _ _ j _ _ _ (heap_alloc_last w _)
theorem cell_old (w : World) (o : Obj) (g j : Nat) (hg : g < w.heap.size) : (w.alloc o).cell? ⟨g, j, none⟩ = w.cell? ⟨g, j, none⟩ := World.cell?_of_block (heap_lt _ _ _ hg)
set_option maxHeartbeats 4000000 in
set_option maxRecDepth 100000 in
theorem pNext_no (s : List UInt8) (w : World) (h : ¬ s.length = 32) :
    Calls Tryd.prog 10 #[.string ⟨s.toArray⟩] w fun e w' => e = .returned (.tuple #[.string ⟨#[]⟩, .int .i64 2]) ∧ Below w.heap.size w w' := by
  have hall : ([s].all fun s => s.length == 32) = false := by simpa using h
  go_enter Tryd.func10, Tryd.ntmps10
  go_wp2_with fail
  refine (whole_any [s] (w.heap.size + 1) _ (by simp) (fun j hj => ?_) 1 rfl).mono ?_
  · obtain rfl : j = 0 := by simpa using hj
    rw [cell_new _ _ _ _ _ (by simp)]; rfl
  · rintro e w1 ⟨rfl, hw1⟩
    rw [hall]
    go_wp2_with fail
    have cz : ((w.alloc (.cells #[.int .i64 2] 26)).alloc (.cells #[.string ⟨s.toArray⟩] 9)).cell? ⟨w.heap.size, 0, none⟩ = some (.int .i64 2) := by
      rw [cell_old _ _ _ _ (by simp), cell_new _ _ _ _ _ rfl]; rfl
    refine bodyPost_ret (v := .tuple #[.string ⟨#[]⟩, .int .i64 2]) (by simp [results, Tryd.results10, go_sem, cz]) rfl ⟨rfl, ((Below.refl _ _).alloc (Nat.le_refl _) _).alloc (by simp) _⟩
/-- 'of(secret, &e)' laid: the world behind it, whose blocks at B are e, at B + 2 and B + 3 the closure's. -/
structure OfAt (w wl : World) (s : List UInt8) (B sb : Nat) : Prop where
  below : Below w.heap.size w wl
  base : w.heap.size ≤ B
  size : B < sb
  e : wl.heap[B]? = some (.cells #[.int .i64 0] 26 (0, 0))
  sec : wl.heap[sb]? = some (.cells #[.string ⟨s.toArray⟩] 9 (0, 0))
  ptr : wl.heap[sb + 1]? = some (.cells #[.pointer (some ⟨B, 0, none⟩)] 49 (0, 0))
/-- A call of the closure: all that OfAt says stays. -/
theorem OfAt.call {w wl : World} {s : List UInt8} {B sb : Nat} (h : OfAt w wl s B sb) (name ctx : List UInt8) (n : Int) (hs : s.length = 32) (hn : name.length ≤ 200) (hc : ctx.length ≤ 200) (h1 : 1 ≤ n) (h2 : n ≤ 32) (hkon : KonAt w) :
    Calls Tryd.prog 26 #[.string ⟨name.toArray⟩, .string ⟨ctx.toArray⟩, .int .i64 n, .pointer (some ⟨sb, 0, none⟩), .pointer (some ⟨sb + 1, 0, none⟩)] wl fun e w' =>
      e = .returned (.string ⟨(Sha.label s name ctx n.toNat).toArray⟩) ∧ OfAt w w' s B sb := by
  refine (of1_any s name ctx n sb (sb + 1) B wl (by omega) hn hc h1 h2 (hkon.below h.below) ?_ ?_ ?_ ?_).mono ?_
  · rw [cell_of_row wl _ 0 _ _ _ h.sec]; rfl
  · rw [cell_of_row wl _ 0 _ _ _ h.ptr]; rfl
  · rw [cell_of_row wl _ 0 _ _ _ h.e]; rfl
  · simp [World.frozen?, h.e]
  · rintro e w' ⟨rfl, w1, hb1, rfl⟩
    have hs := h.size
    have e1 := (hb1.block _ (lt_of_block h.e)).trans h.e
    exact ⟨rfl, (h.below.trans (hb1.mono h.below.size)).setCell h.base _, h.base, h.size, heap_setCell_same w1 B 0 _ _ _ e1,
      (heap_ne _ _ _ _ (by simp; omega)).trans ((hb1.block _ (lt_of_block h.sec)).trans h.sec), (heap_ne _ _ _ _ (by simp; omega)).trans ((hb1.block _ (lt_of_block h.ptr)).trans h.ptr)⟩
theorem of_laid (s : List UInt8) (B : Nat) (w w0 : World) (hb : Below w.heap.size w w0) (hB : w.heap.size ≤ B) (hE : w0.heap[B]? = some (.cells #[.int .i64 0] 26 (0, 0))) :
    Calls Tryd.prog 17 #[.string ⟨s.toArray⟩, .pointer (some ⟨B, 0, none⟩)] w0 fun e w' => ∃ sb, e = .returned (.func (.func 26) #[] #[.pointer (some ⟨sb, 0, none⟩), .pointer (some ⟨sb + 1, 0, none⟩)]) ∧ OfAt w w' s B sb := by
  refine (of_any s B w0).mono ?_
  rintro e w' ⟨rfl, rfl⟩
  have hl := lt_of_block hE
  refine ⟨w0.heap.size, rfl, (hb.alloc hb.size _).alloc (by have := hb.size; simp; omega) _, hB, hl, ?_, ?_, ?_⟩
  · rw [heap_lt _ _ _ (by simp; omega), heap_lt _ _ _ hl]; exact hE
  · rw [heap_lt _ _ _ (by simp), heap_eq _ _ _ rfl]
  · rw [heap_eq _ _ _ (by simp)]
set_option maxHeartbeats 4000000 in
set_option maxRecDepth 100000 in
theorem pNext_any (s : List UInt8) (w : World) (h : s.length = 32) (hkon : KonAt w) :
    Calls Tryd.prog 10 #[.string ⟨s.toArray⟩] w fun e w' => e = .returned (.tuple #[.string ⟨(Sha.label s Sha.nUpd [] 32).toArray⟩, .int .i64 0]) ∧ Below w.heap.size w w' := by
  have hall : ([s].all fun s => s.length == 32) = true := by simpa using h
  have HK := Lib.hid hkon; clear hkon
  have H32 := Lib.hid h; clear h
  go_enter Tryd.func10, Tryd.ntmps10
  go_wp2_with fail
  refine (whole_any [s] (w.heap.size + 1) _ (by simp) (fun j hj => ?_) 1 rfl).mono ?_
  · obtain rfl : j = 0 := by simpa using hj
    rw [cell_new _ _ _ _ _ (by simp)]; rfl
  · rintro e w1 ⟨rfl, hw1⟩
    rw [hall]
    go_wp2_with fail
    refine (of_laid s w.heap.size w _ (((Below.refl _ _).alloc (Nat.le_refl _) _).alloc (by simp) _) (Nat.le_refl _) (by rw [heap_lt _ _ _ (by simp), heap_eq _ _ _ rfl])).mono ?_
    rintro e wl ⟨sb, rfl, hat⟩
    clear hw1
    go_wp2_with fail
    refine (hat.call Sha.nUpd [] 32 H32.out (by decide) (by decide) (by decide) (by decide) HK.out).mono ?_
    rintro e w2 ⟨rfl, hat2⟩
    have c1 : w2.cell? ⟨w.heap.size, 0, none⟩ = some (.int .i64 0) := by rw [cell_of_row w2 _ 0 _ _ _ hat2.e]; rfl
    have f1 : w2.frozen? ⟨w.heap.size, 0, none⟩ = false := by simp [World.frozen?, hat2.e]
    go_wp2_with fail
    refine wp_region_still_tail 3 (by kernel_rfl) (by kernel_rfl) ?_
    simp only [List.take_succ_cons, List.take_zero, List.drop_succ_cons, List.drop_zero]
    repeat still_step
    refine wpStill_nil ?_
    go_wp2_with fail
    have cz : (w2.setCell ⟨w.heap.size, 0, none⟩ (.int .i64 0)).drew.cell? ⟨w.heap.size, 0, none⟩ = some (.int .i64 0) := World.cell?_setCell_same _ _ _ c1
    refine bodyPost_ret (v := .tuple #[.string ⟨(Sha.label s Sha.nUpd [] 32).toArray⟩, .int .i64 0]) (by simp [results, Tryd.results10, go_sem, cz]) rfl ⟨rfl, (hat2.below.setCell (Nat.le_refl _) _).drew⟩
set_option maxHeartbeats 4000000 in
set_option maxRecDepth 100000 in
theorem pFinished_no (s t : List UInt8) (w : World) (h : ¬ (s.length = 32 ∧ t.length = 32)) :
    Calls Tryd.prog 8 #[.string ⟨s.toArray⟩, .string ⟨t.toArray⟩] w fun e w' => e = .returned (.tuple #[.string ⟨#[]⟩, .int .i64 2]) ∧ Below w.heap.size w w' := by
  have hall : ([s, t].all fun s => s.length == 32) = false := by
    rw [Bool.eq_false_iff]; intro e; exact h (by simpa using e)
  go_enter Tryd.func8, Tryd.ntmps8
  go_wp2_with fail
  refine (whole_any [s, t] (w.heap.size + 1) _ (by simp) (fun j hj => ?_) 2 rfl).mono ?_
  · rw [cell_new _ _ _ _ _ (by simp)]
    have hj : j < 2 := hj
    obtain rfl | rfl : j = 0 ∨ j = 1 := by omega
    · rfl
    · rfl
  · rintro e w1 ⟨rfl, hw1⟩
    rw [hall]
    go_wp2_with fail
    have cz : ((w.alloc (.cells #[.int .i64 2] 26)).alloc (.cells #[.string ⟨s.toArray⟩, .string ⟨t.toArray⟩] 9)).cell? ⟨w.heap.size, 0, none⟩ = some (.int .i64 2) := by
      rw [cell_old _ _ _ _ (by simp), cell_new _ _ _ _ _ rfl]; rfl
    refine bodyPost_ret (v := .tuple #[.string ⟨#[]⟩, .int .i64 2]) (by simp [results, Tryd.results8, go_sem, cz]) rfl ⟨rfl, ((Below.refl _ _).alloc (Nat.le_refl _) _).alloc (by simp) _⟩
set_option maxHeartbeats 4000000 in
set_option maxRecDepth 100000 in
theorem pFinished_any (s t : List UInt8) (w : World) (h : s.length = 32) (ht : t.length = 32) (hkon : KonAt w) :
    Calls Tryd.prog 8 #[.string ⟨s.toArray⟩, .string ⟨t.toArray⟩] w fun e w' => e = .returned (.tuple #[.string ⟨(Sha.hmac (Sha.label s Sha.nFin [] 32) t).toArray⟩, .int .i64 0]) ∧ Below w.heap.size w w' := by
  have hall : ([s, t].all fun s => s.length == 32) = true := by simp [h, ht]
  have HK := Lib.hid hkon; clear hkon
  have H32 := Lib.hid h; clear h
  have HT := Lib.hid ht; clear ht
  go_enter Tryd.func8, Tryd.ntmps8
  go_wp2_with fail
  refine (whole_any [s, t] (w.heap.size + 1) _ (by simp) (fun j hj => ?_) 2 rfl).mono ?_
  · rw [cell_new _ _ _ _ _ (by simp)]
    have hj : j < 2 := hj
    obtain rfl | rfl : j = 0 ∨ j = 1 := by omega
    · rfl
    · rfl
  · rintro e w1 ⟨rfl, hw1⟩
    rw [hall]
    go_wp2_with fail
    refine (of_laid s w.heap.size w _ (((Below.refl _ _).alloc (Nat.le_refl _) _).alloc (by simp) _) (Nat.le_refl _) (by rw [heap_lt _ _ _ (by simp), heap_eq _ _ _ rfl])).mono ?_
    rintro e wl ⟨sb, rfl, hat⟩
    clear hw1
    go_wp2_with fail
    refine (hat.call Sha.nFin [] 32 H32.out (by decide) (by decide) (by decide) (by decide) HK.out).mono ?_
    rintro e w2 ⟨rfl, hat2⟩
    go_wp2_with fail
    refine (tag_any (Sha.label s Sha.nFin [] 32) t _ (by rw [Sha.len_label _ _ _ _ (by decide)]; decide) (by rw [HT.out]; decide) (HK.out.below hat2.below)).mono ?_
    rintro e w3 ⟨rfl, hb3⟩
    have hE3 := (hb3.block _ (lt_of_block hat2.e)).trans hat2.e
    have hb03 := hat2.below.trans (hb3.mono hat2.below.size)
    have c1 : w3.cell? ⟨w.heap.size, 0, none⟩ = some (.int .i64 0) := by rw [cell_of_row w3 _ 0 _ _ _ hE3]; rfl
    have f1 : w3.frozen? ⟨w.heap.size, 0, none⟩ = false := by simp [World.frozen?, hE3]
    clear hE3
    go_wp2_with fail
    refine wp_region_still_tail 3 (by kernel_rfl) (by kernel_rfl) ?_
    simp only [List.take_succ_cons, List.take_zero, List.drop_succ_cons, List.drop_zero]
    repeat still_step
    refine wpStill_nil ?_
    go_wp2_with fail
    have cz : (w3.setCell ⟨w.heap.size, 0, none⟩ (.int .i64 0)).drew.cell? ⟨w.heap.size, 0, none⟩ = some (.int .i64 0) := World.cell?_setCell_same _ _ _ c1
    refine bodyPost_ret (v := .tuple #[.string ⟨(Sha.hmac (Sha.label s Sha.nFin [] 32) t).toArray⟩, .int .i64 0]) (by simp [results, Tryd.results8, go_sem, cz]) rfl ⟨rfl, (hb03.setCell (Nat.le_refl _) _).drew⟩
end Go.Proofs.YtdnigbbfiklaoaaDoor
