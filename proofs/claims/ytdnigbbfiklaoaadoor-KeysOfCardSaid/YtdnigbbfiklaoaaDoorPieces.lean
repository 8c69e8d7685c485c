/- hkdf.pieces, of which one piece is taken; hkdf.Expand of at most one. -/
import Derived.Test.YtdnigbbfiklaoaaDoorOnce
import Derived.Test.YtdnigbbfiklaoaaDoorSb
import Derived.Deep.RegionHeld3
import Derived.Deep.RegionWith
import Derived.BigCall
namespace Go.Proofs.YtdnigbbfiklaoaaDoor
open Go.RowKit
attribute [local go_sem] Oper.semAt_some
set_option maxHeartbeats 4000000 in
set_option maxRecDepth 100000 in
theorem pieces_once (key info : List UInt8) (kb ib l : Nat) (W : World) (Jx : World → Prop) (hk : W.cell? ⟨kb, 0, none⟩ = some (.string ⟨key.toArray⟩)) (hi : W.cell? ⟨ib, 0, none⟩ = some (.string ⟨info.toArray⟩))
    (hkl : key.length ≤ 100000) (hil : info.length ≤ 50000) (hkon : KonAt W)
    (hY : ∀ W1, Below W.heap.size W W1 → YieldAt Fence.wide 1 Tryd.prog l #[.string ⟨(Sha.hmac key (info ++ [1])).toArray⟩] W1 fun e W' => e = .returned (.bool false) ∧ Jx W') :
    CallsIn Fence.wide 2 Tryd.prog 61 #[.func (.yield l) #[] #[], .pointer (some ⟨kb, 0, none⟩), .pointer (some ⟨ib, 0, none⟩)] W fun e W' => (∃ v, e = .returned v) ∧ Jx W' := by
  obtain ⟨i, bt⟩ := btinfo
  have HK := Lib.hid hkon; clear hkon
  refine callsIn_of_wp Tryd.func61 rfl trivial ?_ rfl
  simp only [Tryd.ntmps61, List.size_toArray, List.length_cons, List.length_nil, Nat.reduceAdd, Nat.reduceSub, Array.replicate_succ, Array.replicate_zero, List.push_toArray, List.append_toArray, List.nil_append, List.cons_append]
  gi_wp2
  gi_loopw [4, 5] (fun t i wr => t = .string ⟨#[]⟩ ∧ i = .int .u8 1 ∧ wr = W) (fun _ _ _ => 0)
  case atStart => exact ⟨rfl, rfl, rfl⟩
  case round =>
    obtain ⟨rfl, rfl, hwr⟩ := hrel
    subst hwr
    have hconv : ∀ w : World, (convert 41 9 (.slice (some ⟨w.heap.size, 0, none⟩) 1 1)).run Tryd.prog (w.alloc (.cells #[.int .u8 1] 5)) = .ok (.string ⟨#[1]⟩) (w.alloc (.cells #[.int .u8 1] 5)) := fun w =>
      run_bs bt w.heap.size _ 1 1 [1] rfl _ (Own.laid (fr := (0, 0)) (heap_alloc_last w _) (.inr (Nat.le_refl _)) (Nat.le_refl _) (by simp [bts]) (Nat.le_refl _) (by simp only [maxLen]; omega) (by simp) (fun j hj => by simp [bts]))
    gi_wp2
    refine ⟨trivial, ?_⟩
    refine (callsIn_wide.2 (tag_any key (info ++ [1]) _ hkl (by simp; omega) (HK.out.below ((Below.refl _ _).alloc (Nat.le_refl _) _)))).mono ?_
    rintro e w1 ⟨rfl, hb1⟩
    obtain ⟨fn, tmps, assign, body, hy, hR⟩ := hY w1 (((Below.refl _ _).alloc (Nat.le_refl _) _).trans (hb1.mono (by simp)))
    gi_wp2
    refine hR.mono ?_
    rintro e W' ⟨rfl, hJ⟩
    gi_wp2
    refine bodyPost_ret (results_none rfl _ _ _) rfl ?_
    exact ⟨⟨_, rfl⟩, hJ⟩
set_option maxHeartbeats 1000000 in
theorem pieces_any (key info : List UInt8) (w : World) : Calls Tryd.prog 51 #[.string ⟨key.toArray⟩, .string ⟨info.toArray⟩] w fun e w' =>
    e = .returned (.func (.func 61) #[] #[.pointer (some ⟨w.heap.size, 0, none⟩), .pointer (some ⟨w.heap.size + 1, 0, none⟩)]) ∧ w' = (w.alloc (.cells #[.string ⟨key.toArray⟩] 9)).alloc (.cells #[.string ⟨info.toArray⟩] 9) := by
  go_enter Tryd.func51, Tryd.ntmps51
  go_wp2
  go_ret
  exact ⟨by simp, rfl⟩
set_option maxHeartbeats 4000000 in
set_option maxRecDepth 100000 in
theorem pExpand_any (key info : List UInt8) (n : Int) (w : World) (hk : key.length ≤ 100000) (hs : info.length ≤ 50000) (h1 : 1 ≤ n) (h2 : n ≤ 32) (hkon : KonAt w) :
    Calls Tryd.prog 39 #[.string ⟨key.toArray⟩, .string ⟨info.toArray⟩, .int .i64 n] w fun e w' => e = .returned (.tuple #[.string ⟨(Sha.expand key info n.toNat).toArray⟩, .int .i64 0]) ∧ Below w.heap.size w w' := by
  have hd1 : ¬ (n < 0) := by omega
  have hd2 : ¬ (8160 < n) := by omega
  have hd3 : 0 < n := by omega
  have HK := Lib.hid hkon; clear hkon
  refine (callsIn_wide (n := 3)).1 ?_
  refine callsIn_of_wp_marks Tryd.func39 rfl trivial ?_ rfl
  simp only [Tryd.ntmps39, List.size_toArray, List.length_cons, List.length_nil, Nat.reduceAdd, Nat.reduceSub, Array.replicate_succ, Array.replicate_zero, List.push_toArray, List.append_toArray, List.nil_append, List.cons_append]
  gi_wp2
  refine ⟨trivial, ?_⟩
  refine (callsIn_wide.2 (pieces_any key info _)).mono ?_
  rintro e wl ⟨rfl, hwl⟩
  have hsz : wl.heap.size = w.heap.size + 4 := by rw [hwl]; simp
  have hn0 : wl.heap[w.heap.size]? = some (.cells #[.int .i64 n] 3 (0, 0)) := by
    rw [hwl, heap_lt _ _ _ (by simp; omega), heap_lt _ _ _ (by simp; omega), heap_lt _ _ _ (by simp), heap_eq _ _ _ rfl]
  have hb0 : wl.heap[w.heap.size + 1]? = some (.cells #[.pointer none, .slice none 0 0] 67 (0, 0)) := by
    rw [hwl, heap_lt _ _ _ (by simp), heap_lt _ _ _ (by simp), heap_eq _ _ _ (by simp)]
  have hk0 : wl.heap[w.heap.size + 1 + 1]? = some (.cells #[.string ⟨key.toArray⟩] 9 (0, 0)) := by
    rw [hwl, heap_lt _ _ _ (by simp), heap_eq _ _ _ (by simp)]
  have hi0 : wl.heap[w.heap.size + 1 + 1 + 1]? = some (.cells #[.string ⟨info.toArray⟩] 9 (0, 0)) := by
    rw [hwl, heap_eq _ _ _ (by simp)]
  have hbl : Below w.heap.size w wl := by
    rw [hwl]; exact ((((Below.refl _ _).alloc (Nat.le_refl _) _).alloc (by simp) _).alloc (by simp; omega) _).alloc (by simp; omega) _
  clear hwl
  gi_wp2
  have hm32 : (Sha.hmac key (info ++ [1])).length = 32 := Sha.len_hmac _ _
  obtain ⟨M, hM⟩ : ∃ M, M = Sha.hmac key (info ++ [1]) := ⟨_, rfl⟩
  rw [← hM] at hm32
  have HM := Lib.hid hM; clear hM
  refine wpIn_rangeFunc_once (by decide) rfl (enters_of Tryd.func61 (by kernel_rfl) rfl) (.string ⟨M.toArray⟩) rfl 0 ?seq
    (fun W => Lib.IsBuilder 67 5 (w.heap.size + 1) (w.heap.size + 1) (Lib.byteCells M) W ∧ Below w.heap.size w W ∧ W.heap[w.heap.size]? = some (.cells #[.int .i64 n] 3 (0, 0))) ?hIx
    { tmps := #[.string ⟨key.toArray⟩, .string ⟨info.toArray⟩, .int .i64 n, undef, undef, .pointer (some ⟨w.heap.size, 0, none⟩), .string ⟨#[]⟩, .int .i64 0, .pointer (some ⟨w.heap.size + 1, 0, none⟩), .string ⟨M.toArray⟩, .int .i64 n, .bool false, .bool false, .int .i64 n, .bool false, .bool false, .int .i64 n, .bool true, .string ⟨key.toArray⟩, .string ⟨info.toArray⟩, .func (Fn.func 61) #[] #[.pointer (some ⟨w.heap.size + 1 + 1, 0, none⟩), .pointer (some ⟨w.heap.size + 1 + 1 + 1, 0, none⟩)], .string ⟨M.toArray⟩, undef, undef, undef, undef, undef, undef, undef, undef], defers := [] } ?assign ?body ?stop
  case seq =>
    intro l W Jx hW hWs hY
    refine pieces_once key info (w.heap.size + 1 + 1) (w.heap.size + 1 + 1 + 1) l W Jx ?_ ?_ hk hs (HK.out.of ?_) (fun W1 hW1 => ?_)
    · have := (hW.block (w.heap.size + 1 + 1) (by omega)).trans hk0
      rw [cell_of_row W _ 0 _ _ _ this]; rfl
    · have := (hW.block (w.heap.size + 1 + 1 + 1) (by omega)).trans hi0
      rw [cell_of_row W _ 0 _ _ _ this]; rfl
    · have hkl := HK.out.lt
      rw [hW.block _ (by omega), hbl.block _ hkl]
    · rw [← HM.out]; exact hY W1 hW1
  case assign =>
    intro l W K hK
    gi_wp2
    exact hK
  case hIx =>
    rintro r W o ⟨h1', h2', h3'⟩ hR
    have hba : ∀ p, Lib.BuilderAt 67 5 (w.heap.size + 1) (w.heap.size + 1) p (Lib.byteCells M) W → Lib.BuilderAt 67 5 (w.heap.size + 1) (w.heap.size + 1) p (Lib.byteCells M) (W.putObj (wl.heap.size + 1) o) := by
      rintro p ⟨hB, v, hb, hown, hne⟩
      exact ⟨hB, v, (World.putObj_heap_other (by omega)).trans hb, ownsRow_putObj hown _ hR.loop rfl, hne⟩
    refine ⟨h1'.imp (hba _) (hba _), h2'.trans ⟨rfl, rfl, rfl, by simp, fun k hk => World.putObj_heap_other (by omega)⟩, (World.putObj_heap_other (by omega)).trans h3'⟩
  case body =>
    intro l r W hW hR
    have hbW : W.heap[w.heap.size + 1]? = some (.cells #[.pointer none, .slice none 0 0] 67 (0, 0)) := (hW.block _ (by omega)).trans hb0
    have hnW : W.heap[w.heap.size]? = some (.cells #[.int .i64 n] 3 (0, 0)) := (hW.block _ (by omega)).trans hn0
    gi_wp2
    refine ⟨trivial, ?_⟩
    refine (CallsIn.inRound l (callsIn_wide.2 (sbWrite_any (w.heap.size + 1) M W (by omega) hbW))).mono ?_
    rintro e w5 ⟨⟨v, rfl⟩, hib, hg5⟩
    have hWs := hW.size
    have hn5 : w5.heap[w.heap.size]? = some (.cells #[.int .i64 n] 3 (0, 0)) := (hg5.block _ (by omega) (by simp)).trans hnW
    have hR5 : RecAt wl r w5 := ⟨(hg5.block _ (lt_of_block hR.mark) (by simp; omega)).trans hR.mark, (hg5.block _ (lt_of_block hR.loop) (by simp; omega)).trans hR.loop⟩
    have hb5 : Below w.heap.size w w5 := (hbl.trans (hW.mono hbl.size)).grown hg5 (by omega) (fun x hx => by cases hx; omega)
    have cn : w5.cell? ⟨w.heap.size, 0, none⟩ = some (.int .i64 n) := by rw [cell_of_row w5 _ 0 _ _ _ hn5]; rfl
    have hge : n ≤ ((Lib.byteCells M).length : Int) := by rw [Lib.byteCells_length, hm32]; omega
    gi_wp2
    have hmx : Tryd.prog.follows .mixedOrders = true := by kernel_rfl
    gi_region_with_o (
        refine ⟨trivial, ?_⟩
        gi_at_call 37
        refine (CallsIn.inRound l (callsIn_wide.2 (sbLen_any (w.heap.size + 1) (Lib.byteCells M) _ ?_))).mono ?_
        exact hib
        rintro e w' ⟨rfl, rfl⟩)
    all_goals gi_wp2
    all_goals exact ⟨⟨hR5.mark, hR5.loop⟩, hib, hb5.drew, hn5⟩
  case stop =>
    rintro W ⟨h1', h2', h3'⟩ hD
    gi_wp2
    refine wpIn_wide.2 ?_
    have cn : W.cell? ⟨w.heap.size, 0, none⟩ = some (.int .i64 n) := by rw [cell_of_row W _ 0 _ _ _ h3']; rfl
    have q1 : n ≤ (M.length : Int) := by rw [hm32]; omega
    have q2 : 0 ≤ n := by omega
    refine wp_region_noPanic ?_
    go_region_with (
        go_at_call 38
        refine (sbString_any (w.heap.size + 1) M _ ?_ ?_).mono ?_
        exact h1'
        exact (by have := lt_of_block hD; show w.heap.size + 1 ≤ W.heap.size; omega)
        rintro e w' ⟨rfl, hb', hok⟩
        have hD' : w'.heap[wl.heap.size]? = some (.deferred (some [])) := hok _ _ hD (by simp; omega) (by intro c fz e; cases e)
        have hB' : Below w.heap.size w w' := h2'.drew.trans (hb'.mono (by omega))
        have cn' : w'.cell? ⟨w.heap.size, 0, none⟩ = some (.int .i64 n) := (hb'.cell (p := ⟨w.heap.size, 0, none⟩) (by simp)).trans cn)
    all_goals (refine NoPanic.normal ?_)
    all_goals gi_wp2
    all_goals rw [hsz] at hD'
    all_goals simp only [Act.put, List.getElem_toArray, List.getElem_cons_succ, List.getElem_cons_zero, List.setIfInBounds_toArray, List.set_cons_zero, List.set_cons_succ]
    all_goals refine ⟨by simp, .inl ⟨_, _, rfl, run_takeDeferred hD', ?_⟩⟩
    all_goals refine ⟨.tuple #[.string ⟨(Sha.expand key info n.toNat).toArray⟩, .int .i64 0], ?_, rfl, hB'.trans ⟨rfl, rfl, rfl, by simp, fun k hk => World.putObj_heap_other (by omega)⟩⟩
    all_goals
      have hx : (⟨M.toArray⟩ : ByteArray).extract 0 n.toNat = ⟨(Sha.expand key info n.toNat).toArray⟩ := by
        rw [Sha.expand_eq, ← HM.out]
        apply ByteArray.ext
        simp
      rw [hx]
      simp [results, Tryd.results39]
end Go.Proofs.YtdnigbbfiklaoaaDoor
