/- A strings.Builder that is written once. -/
import Derived.Test.YtdnigbbfiklaoaaDoorBuilder
import Derived.Test.YtdnigbbfiklaoaaDoorTag
import Derived.Laws.Externs
namespace Go.Proofs.YtdnigbbfiklaoaaDoor
open Go.RowKit
set_option maxHeartbeats 1000000 in
set_option maxRecDepth 100000 in
theorem sbCheck_any (b : Nat) (w : World) (hb : w.heap[b]? = some (.cells #[.pointer none, .slice none 0 0] 67 (0, 0))) :
    Calls Tryd.prog 49 #[.pointer (some ⟨b, 0, none⟩)] w fun e w' => e = .returned (.tuple #[]) ∧ w' = w.setCell ⟨b, 0, none⟩ (.pointer (some ⟨b, 0, none⟩)) := by
  obtain ⟨j, hj, hjs⟩ := Option.map_eq_some_iff.1 (show (Tryd.prog.info? 67).map (·.size) = some 2 by kernel_rfl)
  have h0 : w.cell? ⟨b, 0, none⟩ = some (.pointer none) := by rw [cell_of_row w b 0 _ _ _ hb]; rfl
  have hfz : w.frozen? ⟨b, 0, none⟩ = false := by simp [World.frozen?, hb]
  have hsh : w.shape? b = some (67, 2) := by simp [World.shape?, hb]
  go_enter Tryd.func49, Tryd.ntmps49
  go_wp2_with fail
  rw [Lib.run_to_unsafe w ⟨b, 0, none⟩ Tryd.underlying65 Tryd.underlying105 hj (by rw [hjs]; decide) hsh (Nat.zero_lt_succ 1)]
  simp only [Result.andThen]
  rw [Oper.upon_value]
  go_wp2_with fail
  rw [run_callFunc_extern Tryd.func60 (by kernel_rfl) (by kernel_rfl) (by kernel_rfl) (e := Extern.AbiNoEscape.same) (by kernel_rfl)]
  rw [Lib.run_noEscape]
  simp only [Result.andThen]
  rw [Oper.upon_value]
  go_wp2_with fail
  rw [Lib.run_from_unsafe w ⟨b, 0, none⟩ Tryd.underlying105 Tryd.underlying65 hj hsh (by kernel_rfl)]
  simp only [Result.andThen]
  rw [Oper.upon_value]
  go_wp2_with fail
  go_end0
  exact ⟨rfl, rfl⟩
theorem ownsRow_shape {w : World} {base : Nat} {e : TypeId} {size : Nat} {v : Value} {n : Nat} {xs : List Value} (h : w.ownsRow base e size v n xs) : ∃ p cap, v = .slice p n cap := by
  rcases h.2 with ⟨rfl, rfl⟩ | ⟨g, cap, cur, rfl, _⟩
  · exact ⟨_, _, rfl⟩
  · exact ⟨_, _, rfl⟩
set_option maxHeartbeats 1000000 in
set_option maxRecDepth 100000 in
theorem sbWrite_any (b : Nat) (s : List UInt8) (w : World) (hs : s.length ≤ 1000000) (hb : w.heap[b]? = some (.cells #[.pointer none, .slice none 0 0] 67 (0, 0))) :
    Calls Tryd.prog 36 #[.pointer (some ⟨b, 0, none⟩), .string ⟨s.toArray⟩] w fun e w' => (∃ v, e = .returned v) ∧ Lib.IsBuilder 67 5 b b (Lib.byteCells s) w' ∧ w.grownBy w' (some b) := by
  obtain ⟨i, bt⟩ := btinfo
  have hbl := lt_of_block hb
  have hb2 : (w.setCell ⟨b, 0, none⟩ (.pointer (some ⟨b, 0, none⟩))).heap[b]? = some (.cells #[.pointer (some ⟨b, 0, none⟩), .slice none 0 0] 67 (0, 0)) := heap_setCell_same w b 0 _ _ _ hb
  have hgr : w.grownBy (w.setCell ⟨b, 0, none⟩ (.pointer (some ⟨b, 0, none⟩))) (some b) := grown_set (grown_refl w _) 0 _
  have hss : (⟨s.toArray⟩ : ByteArray).size = s.length := by simp [ByteArray.size]
  obtain ⟨w1, hw1⟩ : ∃ w1, w1 = w.setCell ⟨b, 0, none⟩ (.pointer (some ⟨b, 0, none⟩)) := ⟨_, rfl⟩
  rw [← hw1] at hb2 hgr
  have c1 : w1.cell? ⟨b, 1, none⟩ = some (.slice none 0 0) := by rw [cell_of_row w1 b 1 _ _ _ hb2]; rfl
  have HB2 := Lib.hid hb2; clear hb2
  go_enter Tryd.func36, Tryd.ntmps36
  go_wp2_with fail
  refine (sbCheck_any b w hb).mono ?_
  rintro e w2 ⟨rfl, hw2⟩
  rw [← hw1] at hw2
  clear hw1
  subst hw2
  go_wp2_with (first
    | (refine Lib.wpList_append_own_string w2 rfl _ _ 41 9 rfl b 5 i bt.ht bt.hs bt.hi bt.hz bt.h1 bt.hb (.slice none 0 0) 0 [] rfl (World.ownsRow_nil _ _ _ _) ⟨s.toArray⟩ rfl (by rw [hss]; simp only [maxLen]; omega) (by rw [hss]; omega) (by have := hgr.size; omega) ?_; intro v' w3 h3 hg3 hv3
       obtain ⟨p', cap', rfl⟩ := ownsRow_shape h3
       have hb3 : w3.heap[b]? = some (.cells #[.pointer (some ⟨b, 0, none⟩), .slice none 0 0] 67 (0, 0)) := by rw [hg3.block b (lt_of_block HB2.out) (fun e => by cases e)]; exact HB2.out
       have d1 : w3.cell? ⟨b, 1, none⟩ = some (.slice none 0 0) := by rw [cell_of_row w3 b 1 _ _ _ hb3]; rfl
       have e1 : w3.frozen? ⟨b, 1, none⟩ = false := by simp [World.frozen?, hb3]
       have HB3 := Lib.hid hb3
       clear hb3))
  go_ret2
  have hne : (Value.slice p' s.length cap').ownBlock ≠ some b := by
    intro hob
    rcases h3.2 with ⟨hv, _⟩ | ⟨g, cap, cur, hv, _, hgc, _⟩
    · injection hv with e1 _ _; rw [e1] at hob; cases hob
    · injection hv with e1 _ _
      rw [e1] at hob
      simp [Value.ownBlock] at hob
      subst hob
      rw [HB3.out] at hgc
      simp at hgc
  refine ⟨⟨_, rfl⟩, .inr ⟨Nat.le_refl _, .slice p' s.length cap', ?_, ?_, hne⟩, ?_⟩
  · rw [heap_setCell_same w3 b 1 _ _ _ HB3.out]; rfl
  · rw [Lib.byteCells_length]
    refine World.ownsRow.kept ?_ (Lib.grownBy_setCell w3 b 1 _) (Or.inr hne)
    simpa [hss, Lib.strCells_eq] using h3
  · exact grown_set ⟨hg3.os.trans hgr.os, hg3.tape.trans hgr.tape, hg3.output.trans hgr.output, Nat.le_trans hgr.size hg3.size, fun k hk hkb => (hg3.block k (by have := hgr.size; omega) (fun e => by cases e)).trans (hgr.block k hk hkb)⟩ 1 _
theorem sbLen_any (b : Nat) (bs : List Value) (w : World) (h : Lib.IsBuilder 67 5 b b bs w) :
    Calls Tryd.prog 37 #[.pointer (some ⟨b, 0, none⟩)] w fun e w' => e = .returned (.int .i64 bs.length) ∧ w' = w :=
  Any.Builder_Len Tryd.lays170 b b bs w h
theorem sbString_any (b : Nat) (l : List UInt8) (w : World) (h : Lib.IsBuilder 67 5 b b (Lib.byteCells l) w) (hb : b ≤ w.heap.size) :
    Calls Tryd.prog 38 #[.pointer (some ⟨b, 0, none⟩)] w fun e w' => e = .returned (.string ⟨l.toArray⟩) ∧ Below b w w' ∧ Lib.OthersKept 5 (some b) w w' :=
  (Any.Builder_String_any_k Tryd.lays169 Tryd.bx169 b b l w (Lib.IsBuilderF.of h) hb).mono fun _ _ h => ⟨h.1, h.2.2⟩
end Go.Proofs.YtdnigbbfiklaoaaDoor
