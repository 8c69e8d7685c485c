/- The program's key schedule: Proof. -/
import Derived.Test.YtdnigbbfiklaoaaDoorTraffic
import Derived.WideMake
namespace Go.Proofs.YtdnigbbfiklaoaaDoor
open Go.RowKit
set_option maxHeartbeats 4000000 in
set_option maxRecDepth 100000 in
theorem hp_low (l : List UInt8) (w : World) (hl : l.length ≤ 1000) : Calls Tryd.prog 48 #[.string ⟨(32 :: l).toArray⟩, .string ⟨#[32]⟩] w fun e w' => e = .returned (.bool true) ∧ w' = w := by
  have q1 : (1 : Int) ≤ (l.length : Int) + 1 := by omega
  go_enter Tryd.func48, Tryd.ntmps48
  go_wp2_with fail
  have e1 : (⟨(32 :: l).toArray⟩ : ByteArray).extract 0 1 = ⟨#[32]⟩ := by apply ByteArray.ext; simp
  have e2 : (((⟨(32 :: l).toArray⟩ : ByteArray).extract 0 1).toList == [32]) = true := by rw [e1]; decide +kernel
  rw [e2]
  go_ret
  exact ⟨rfl, rfl⟩
set_option maxHeartbeats 4000000 in
set_option maxRecDepth 100000 in
theorem hp_any (l : List UInt8) (w : World) (hl : l.length ≤ 1000) : Calls Tryd.prog 34 #[.string ⟨(32 :: l).toArray⟩, .string ⟨#[32]⟩] w fun e w' => e = .returned (.bool true) ∧ w' = w := by
  go_enter Tryd.func34, Tryd.ntmps34
  go_wp2_with fail
  refine (hp_low l w hl).mono ?_
  rintro e w1 ⟨rfl, hw1⟩
  have hw1 := hw1.symm
  subst hw1
  go_wp2_with fail
  go_ret
  exact ⟨rfl, rfl⟩
set_option maxHeartbeats 4000000 in
set_option maxRecDepth 100000 in
theorem spaces_any (w : World) : Calls Tryd.prog 22 #[.string ⟨#[32]⟩, .int .i64 64] w fun e w' => e = .returned (.string ⟨(List.replicate 64 (32 : UInt8)).toArray⟩) ∧ w' = w := by
  go_enter Tryd.func22, Tryd.ntmps22
  go_wp2_with (first
    | (go_at_call 33; refine (mul_any _).mono ?_; rintro e w' ⟨rfl, hw'⟩; have hw' := hw'.symm; subst hw')
    | (go_at_call 34; refine (hp_any _ _ (by decide)).mono ?_; rintro e w' ⟨rfl, hw'⟩; have hw' := hw'.symm; subst hw'))
  go_ret
  exact ⟨by kernel_rfl, rfl⟩
set_option maxHeartbeats 4000000 in
set_option maxRecDepth 100000 in
theorem pProof_no (b : Bool) (t : List UInt8) (w : World) (h : ¬ t.length = 32) :
    Calls Tryd.prog 12 #[.bool b, .string ⟨t.toArray⟩] w fun e w' => e = .returned (.tuple #[.string ⟨#[]⟩, .int .i64 2]) ∧ Below w.heap.size w w' := by
  have hall : ([t].all fun s => s.length == 32) = false := by simpa using h
  go_enter Tryd.func12, Tryd.ntmps12
  go_wp2_with fail
  refine (whole_any [t] w.heap.size _ (by simp) (fun j hj => ?_) 1 rfl).mono ?_
  · obtain rfl : j = 0 := by simpa using hj
    rw [cell_new _ _ _ _ _ rfl]; rfl
  · rintro e w1 ⟨rfl, hw1⟩
    rw [hall]
    go_wp2_with fail
    go_ret2
    exact ⟨rfl, (Below.refl _ _).alloc (Nat.le_refl _) _⟩
section
variable {P : Program} {w : World}
theorem run_insB (mty kt et : TypeId) (r clock : Nat) (b : Bool) (es : Array MapEntry) (val : Value) (hm : P.underlying mty = some (.map kt et)) (hk : P.underlying kt = some .bool) (hb : w.heap[r]? = some (.map es clock))
    (hf : Instr.findNow .bool (.bool b) es.toList 0 = some none) :
    (Instr.mapUpdate mty (.map (some r)) (.bool b) val).run P w = .ok () { w with heap := w.heap.setIfInBounds r (.map (es.push { key := .bool b, val := val, born := clock }) (clock + 1)) } := by
  have hc : (Instr.checkKey false 10000 kt (.bool b)).run P w = .ok () w := MapKept.run_checkKey (k := .bool b) hk (by simp [MapKept.IsKey]) false 9999
  simp [Instr.mapUpdate, run_underlying hm, MapKept.run_getObj_map hb, hc, MapKept.run_findKey hk hf, MapKept.run_setObj_map _ hb, Result.andThen]
theorem run_lookB (mty kt et : TypeId) (r clock i : Nat) (b : Bool) (es : Array MapEntry) (val : Value) (hm : P.underlying mty = some (.map kt et)) (hk : P.underlying kt = some .bool) (hb : w.heap[r]? = some (.map es clock))
    (hf : Instr.findNow .bool (.bool b) es.toList 0 = some (some (i, val))) :
    (Instr.lookup mty (.map (some r)) (.bool b) false).run P w = .ok val w := by
  have hc : (Instr.checkKey es.isEmpty 10000 kt (.bool b)).run P w = .ok () w := MapKept.run_checkKey (k := .bool b) hk (by simp [MapKept.IsKey]) _ 9999
  simp [Instr.lookup, run_underlying hm, MapKept.run_getObj_map hb, hc, MapKept.run_findKey hk hf, Result.andThen]
end
set_option maxHeartbeats 4000000 in
set_option maxRecDepth 100000 in
theorem pProof_any (b : Bool) (t : List UInt8) (w : World) (h : t.length = 32) :
    Calls Tryd.prog 12 #[.bool b, .string ⟨t.toArray⟩] w fun e w' => e = .returned (.tuple #[.string ⟨(Sha.proof b t).toArray⟩, .int .i64 0]) ∧ Below w.heap.size w w' := by
  have hall : ([t].all fun s => s.length == 32) = true := by simpa using h
  have hmk := fun w : World => run_makeMap_plain (P := Tryd.prog) (w := w) 53
  obtain ⟨v1, hv1⟩ : ∃ v1 : Value, v1 = .string ⟨#[115, 101, 114, 118, 101, 114]⟩ := ⟨_, rfl⟩
  obtain ⟨v2, hv2⟩ : ∃ v2 : Value, v2 = .string ⟨#[99, 108, 105, 101, 110, 116]⟩ := ⟨_, rfl⟩
  obtain ⟨W1, hW1⟩ : ∃ W1, W1 = (w.alloc (Obj.cells #[.string ⟨t.toArray⟩] 9)).alloc (.map #[] 0) := ⟨_, rfl⟩
  have hs1 : W1.heap.size = w.heap.size + 2 := by rw [hW1]; simp
  have m1 : W1.heap[w.heap.size + 1]? = some (.map #[] 0) := by rw [hW1, heap_eq _ _ _ (by simp)]
  have i1 := run_insB (P := Tryd.prog) 53 4 9 (w.heap.size + 1) 0 true #[] v1 Tryd.underlying53 Tryd.underlying4 m1 rfl
  obtain ⟨W2, hW2⟩ : ∃ W2 : World, W2 = { W1 with heap := W1.heap.setIfInBounds (w.heap.size + 1) (.map (#[].push { key := .bool true, val := v1, born := 0 }) (0 + 1)) } := ⟨_, rfl⟩
  rw [← hW2] at i1
  have m2 : W2.heap[w.heap.size + 1]? = some (.map (#[].push { key := .bool true, val := v1, born := 0 }) (0 + 1)) := by rw [hW2]; exact World.putObj_heap_same (w := W1) (by omega)
  have i2 := run_insB (P := Tryd.prog) 53 4 9 (w.heap.size + 1) (0 + 1) false _ v2 Tryd.underlying53 Tryd.underlying4 m2 rfl
  obtain ⟨W3, hW3⟩ : ∃ W3 : World, W3 = { W2 with heap := W2.heap.setIfInBounds (w.heap.size + 1) (.map ((#[].push { key := .bool true, val := v1, born := 0 }).push { key := .bool false, val := v2, born := 0 + 1 }) (0 + 1 + 1)) } := ⟨_, rfl⟩
  rw [← hW3] at i2
  have hs2 : W2.heap.size = w.heap.size + 2 := by rw [hW2]; simp [hs1]
  have m3 : W3.heap[w.heap.size + 1]? = some (.map ((#[].push { key := .bool true, val := v1, born := 0 }).push { key := .bool false, val := v2, born := 0 + 1 }) (0 + 1 + 1)) := by rw [hW3]; exact World.putObj_heap_same (w := W2) (by omega)
  have l3 : ∀ b : Bool, (Instr.lookup 53 (.map (some (w.heap.size + 1))) (.bool b) false).run Tryd.prog W3 = .ok (if b then v1 else v2) W3 := fun b => by
    cases b
    · exact run_lookB 53 4 9 (w.heap.size + 1) _ 1 false _ v2 Tryd.underlying53 Tryd.underlying4 m3 rfl
    · exact run_lookB 53 4 9 (w.heap.size + 1) _ 0 true _ v1 Tryd.underlying53 Tryd.underlying4 m3 rfl
  have hb3 : Below w.heap.size w W3 := by
    have b1 : Below w.heap.size w W1 := by rw [hW1]; exact ((Below.refl _ _).alloc (Nat.le_refl _) _).alloc (by simp) _
    have b2 : Below w.heap.size w W2 := b1.trans (by rw [hW2]; exact ⟨rfl, rfl, rfl, by simp, fun k hk => by simp [show w.heap.size + 1 ≠ k by omega]⟩)
    exact b2.trans (by rw [hW3]; exact ⟨rfl, rfl, rfl, by simp, fun k hk => by simp [show w.heap.size + 1 ≠ k by omega]⟩)
  clear hW2 hW3 m1 m2 m3 hs1 hs2
  have l4 := l3 b
  rw [hW1, hv1] at i1
  rw [hv2] at i2
  clear l3 hW1
  go_enter Tryd.func12, Tryd.ntmps12
  go_wp2_with fail
  refine (whole_any [t] w.heap.size _ (by simp) (fun j hj => ?_) 1 rfl).mono ?_
  · obtain rfl : j = 0 := by simpa using hj
    rw [cell_new _ _ _ _ _ rfl]; rfl
  · rintro e w1 ⟨rfl, hw1⟩
    rw [hall]
    have hw1 := hw1.symm
    subst hw1
    go_wp2_with fail
    all_goals
      refine (spaces_any _).mono ?_
      rintro e w2 ⟨rfl, hw2⟩
      have hw2 := hw2.symm
      subst hw2
      go_wp2_with fail
      go_ret2
      exact ⟨by simp [Sha.proof, *], hb3⟩
end Go.Proofs.YtdnigbbfiklaoaaDoor
