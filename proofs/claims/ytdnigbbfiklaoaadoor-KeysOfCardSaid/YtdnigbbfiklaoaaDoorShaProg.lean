/- The program's SHA-256: turning, a block. -/
import Derived.Test.YtdnigbbfiklaoaaDoorProg
import Derived.Test.YtdnigbbfiklaoaaDoorShaSpec
import Derived.Test.YtdnigbbfiklaoaaDoorOwn
import Derived.Deep.MidRow
namespace Go.Proofs.YtdnigbbfiklaoaaDoor
open Go.RowKit
theorem o32_comm (x y : UInt32) : U.o32 x y = U.o32 y x := UInt32.or_comm x y
theorem a32_swap (x y z : UInt32) : U.a32 (U.a32 x y) z = U.a32 (U.a32 x z) y := by
  unfold U.a32; rw [UInt32.add_assoc, UInt32.add_assoc, UInt32.add_comm y z]
theorem neg_and (a : Int) (h1 : 1 ≤ a) (h2 : a ≤ 31) : bits .and .u64 (IntKind.u64.wrap (-a)) 31 = 32 - a := by
  have e : IntKind.u64.wrap (-a) = ((18446744073709551616 - a.toNat : Nat) : Int) := by rw [U.wrap_u64]; omega
  rw [e]
  have := (bits_mask .u64 64 (by decide) (fun n h0 h1 => by rw [U.wrap_u64]; omega) 5 (by decide) ((18446744073709551616 - a.toNat : Nat) : Int) (by omega) (by omega))
  have e2 : (2 ^ 5 - 1 : Int) = 31 := by decide
  rw [e2] at this
  rw [this]
  have e3 : (2 ^ 5 : Int) = 32 := by decide
  rw [e3]
  omega
set_option maxHeartbeats 1000000 in
theorem rotl_any (x : UInt32) (a : Int) (w : World) (h1 : 1 ≤ a) (h2 : a ≤ 31) :
    Calls Tryd.prog 65 #[.int .u32 x.toNat, .int .i64 (-a)] w fun e w' => e = .returned (.int .u32 (Sha.rotr x a.toNat).toNat) ∧ w' = w := by
  have hn := neg_and a h1 h2
  have q1 : a ≤ 32 := by omega
  have q2 : IntKind.u64.wrap (32 - (32 - a)) = a := by rw [U.wrap_u64]; omega
  have q3 : 0 ≤ a := by omega
  go_enter Tryd.func65, Tryd.ntmps65
  go_wp2
  go_ret
  exact ⟨ret_int (by rw [Sha.rotr, show (32 - a).toNat = 32 - a.toNat by omega, o32_comm]), rfl⟩
set_option maxHeartbeats 1000000 in
theorem turned_any (x : UInt32) (a b c : Int) (w : World) (ha : 1 ≤ a ∧ a ≤ 31) (hb : 1 ≤ b ∧ b ≤ 31) (hc : 1 ≤ c ∧ c ≤ 31) :
    Calls Tryd.prog 64 #[.int .u32 x.toNat, .int .i64 a, .int .i64 b, .int .i64 c] w fun e w' => e = .returned (.int .u32 (U.x32 (U.x32 (Sha.rotr x a.toNat) (Sha.rotr x b.toNat)) (Sha.rotr x c.toNat)).toNat) ∧ w' = w := by
  obtain ⟨a1, a2⟩ := ha
  obtain ⟨b1, b2⟩ := hb
  obtain ⟨c1, c2⟩ := hc
  go_enter Tryd.func64, Tryd.ntmps64
  go_wp2_with (go_at_call 65; refine (rotl_any _ _ _ (by assumption) (by assumption)).mono ?_; rintro e w' ⟨rfl, rfl⟩)
  go_ret
  exact ⟨rfl, rfl⟩
set_option maxHeartbeats 1000000 in
theorem moved_any (x : UInt32) (a b c : Int) (w : World) (ha : 1 ≤ a ∧ a ≤ 31) (hb : 1 ≤ b ∧ b ≤ 31) (hc : 1 ≤ c ∧ c ≤ 31) :
    Calls Tryd.prog 66 #[.int .u32 x.toNat, .int .i64 a, .int .i64 b, .int .i64 c] w fun e w' => e = .returned (.int .u32 (U.x32 (U.x32 (Sha.rotr x a.toNat) (Sha.rotr x b.toNat)) (U.r32 x c.toNat)).toNat) ∧ w' = w := by
  obtain ⟨a1, a2⟩ := ha
  obtain ⟨b1, b2⟩ := hb
  obtain ⟨c1, c2⟩ := hc
  have c3 : 0 ≤ c := by omega
  go_enter Tryd.func66, Tryd.ntmps66
  go_wp2_with (go_at_call 65; refine (rotl_any _ _ _ (by assumption) (by assumption)).mono ?_; rintro e w' ⟨rfl, rfl⟩)
  go_ret
  exact ⟨rfl, rfl⟩

/-- A Hash's block: its words, its buffer, how many bytes it has. -/
def hcells (h : List UInt32) (v : Value) (off lr n : Int) : List Value := (Sha.arr32 h).toList ++ [v, .int .i64 off, .int .i8 lr, .int .u64 n, .bool true]
def HashIs (w : World) (B : Nat) (h : List UInt32) (v : Value) (off lr n : Int) : Prop :=
  h.length = 8 ∧ w.heap[B]? = some (.cells (hcells h v off lr n).toArray 98 (0, 0))
theorem HashIs.word {w : World} {B : Nat} {h : List UInt32} {v : Value} {off lr n : Int} (H : HashIs w B h v off lr n) {j : Nat} (hj : j < 8) : w.cell? ⟨B, j, none⟩ = some (.int .u32 ((Sha.g h j).toNat : Int)) := by
  obtain ⟨hl, hb⟩ := H
  rw [cell_of_row w B j _ _ _ hb, hcells]
  have : j < (Sha.arr32 h).toList.length := by simp [Sha.size_arr32]; omega
  rw [List.getElem?_toArray, List.getElem?_append_left this]
  simpa using Sha.get_arr32 (l := h) (j := j) (by omega)
theorem HashIs.rest {w : World} {B : Nat} {h : List UInt32} {v : Value} {off lr n : Int} (H : HashIs w B h v off lr n) (j : Nat) : w.cell? ⟨B, 8 + j, none⟩ = [v, .int .i64 off, .int .i8 lr, .int .u64 n, .bool true][j]? := by
  obtain ⟨hl, hb⟩ := H
  rw [cell_of_row w B _ _ _ _ hb, hcells, List.getElem?_toArray, List.getElem?_append_right (by simp [Sha.size_arr32]; omega)]
  congr 1
  simp [Sha.size_arr32]; omega
theorem HashIs.free {w : World} {B : Nat} {h : List UInt32} {v : Value} {off lr n : Int} (H : HashIs w B h v off lr n) (j : Nat) : w.frozen? ⟨B, j, none⟩ = false := Sha.free32 H.2 j
theorem HashIs.lt {w : World} {B : Nat} {h : List UInt32} {v : Value} {off lr n : Int} (H : HashIs w B h v off lr n) : B < w.heap.size := lt_of_block H.2
theorem HashIs.frame {w w' : World} {B : Nat} {h : List UInt32} {v : Value} {off lr n : Int} (H : HashIs w B h v off lr n) (hb : w'.heap[B]? = w.heap[B]?) : HashIs w' B h v off lr n := ⟨H.1, hb.trans H.2⟩
theorem HashIs.setWord {w : World} {B : Nat} {h : List UInt32} {v : Value} {off lr n : Int} (H : HashIs w B h v off lr n) {j : Nat} (hj : j < 8) (u : UInt32) : HashIs (w.setCell ⟨B, j, none⟩ (.int .u32 (u.toNat : Int))) B (h.set j u) v off lr n := by
  obtain ⟨hl, hb⟩ := H
  refine ⟨by simpa using hl, ?_⟩
  rw [heap_setCell_same w B j _ _ _ hb]
  congr 2
  apply Array.toList_inj.1
  simp only [hcells, Array.toList_setIfInBounds]
  rw [List.set_append_left _ _ (by simp [Sha.size_arr32]; omega), ← Sha.set_arr32, Array.toList_setIfInBounds]
/-- The constants of the rounds lie in their variable. -/
def KonAt (w : World) : Prop := w.rangeAt 1 0 (Sha.arr32 Sha.kon).toList
theorem KonAt.of {w w' : World} (h : KonAt w) (hb : w'.heap[1]? = w.heap[1]?) : KonAt w' := fun j v hv => by
  rw [World.cell?_of_block (w := w) hb]; exact h j v hv
theorem KonAt.lt {w : World} (h : KonAt w) : 1 < w.heap.size := by
  have := h 0 (.int .u32 ((Sha.g Sha.kon 0).toNat : Int)) (by rw [← Sha.get_arr32 (l := Sha.kon) (j := 0) (by rw [Sha.len_kon]; decide)]; simp)
  exact block_lt_of_cell this
theorem KonAt.below {w w' : World} (h : KonAt w) (hb : Below w.heap.size w w') : KonAt w' := h.of (hb.block _ h.lt)
set_option maxHeartbeats 1000000 in
set_option maxRecDepth 100000 in
theorem pblock_any (h : List UInt32) (v : Value) (off lr n : Int) (B : Nat) (b : List UInt8) (g o cap : Nat) (w : World) (hH : HashIs w B h v off lr n) (hgl : g < w.heap.size)
    (hc : ∀ j, j < 64 → w.cell? ⟨g, o + j, none⟩ = some (.int .u8 (Sha.gb b j).toNat)) (hkon : KonAt w) :
    Calls Tryd.prog 55 #[.pointer (some ⟨B, 0, none⟩), .slice (some ⟨g, o, none⟩) 64 cap] w fun e w' => e = .returned (.tuple #[]) ∧ HashIs w' B (Sha.blk h b) v off lr n ∧ w.grownBy w' (some B) := by
  have hBl := hH.lt
  have HK := Lib.hid hkon; clear hkon
  go_enter Tryd.func55, Tryd.ntmps55
  go_wp2_with fail
  go_loopw [5, 6, 18] (fun _ _ i wr => ∃ k : Nat, k ≤ 64 ∧ i = .int .i64 k ∧ Below w.heap.size w wr ∧ wr.heap.size = w.heap.size + 1 ∧ wr.heap[w.heap.size]? = some (.cells (Sha.arr32 (Sha.loadTo b k)) 101 (0, 0)))
    (fun _ _ i _ => (64 - intOf i).toNat)
  case atStart =>
    refine ⟨0, by omega, rfl, (Below.refl _ _).alloc (Nat.le_refl _) _, by simp, ?_⟩
    rw [heap_eq _ _ _ rfl, Sha.loadTo_0]; simp [Sha.arr32]
  case round =>
    obtain ⟨k, hk, rfl, hB, hsz, h2⟩ := hrel
    have HS := Lib.hid hsz; clear hsz
    have hl := Sha.len_loadTo b k
    by_cases hlt : k < 64
    · have c1 := Sha.cell32 h2 (j := k / 4) (by omega)
      have c2 : wr.cell? ⟨g, o + k, none⟩ = some (.int .u8 (Sha.gb b k).toNat) := by rw [hB.cell (p := ⟨g, o + k, none⟩) hgl]; exact hc k hlt
      have f1 := Sha.free32 h2 (k / 4)
      have HL := Lib.hid hl; clear hl
      have H2 := Lib.hid h2; clear h2
      clear hc
      have q5 : (k : Int) < 64 := by omega
      go_wp2_with fail
      go_roundw
      case rel =>
        refine ⟨k + 1, by omega, by go_num, hB.setCell (by simp) _, by simp [HS.out], ?_⟩
        rw [Sha.loadTo_succ, Sha.loadStep]; exact Sha.set32 H2.out _ _
      case measure => simp [intOf]; omega
    · have hk64 : k = 64 := by omega
      subst hk64
      rw [show ((64 : Nat) : Int) = 64 from rfl]
      obtain ⟨wo, rfl⟩ : ∃ wo : World, wo = wr := ⟨_, rfl⟩
      have HL := Lib.hid hl; clear hl
      have H2 := Lib.hid h2; clear h2
      clear hc hlt
      go_wp2_with fail
      go_loopw [9] (fun i wr => ∃ k : Nat, 16 ≤ k ∧ k ≤ 64 ∧ i = .int .i64 k ∧ Below w.heap.size w wr ∧ wr.heap.size = w.heap.size + 1 ∧ wr.heap[w.heap.size]? = some (.cells (Sha.arr32 (Sha.extTo (Sha.loadTo b 64) k)) 101 (0, 0)))
        (fun i _ => (64 - intOf i).toNat)
      case atStart => exact ⟨16, by omega, by omega, rfl, hB, HS.out, by rw [Sha.extTo_16]; exact H2.out⟩
      case round =>
        clear hB HS H2 HL
        obtain ⟨k, hk16, hk, rfl, hB, hsz, h2⟩ := hrel
        have HS := Lib.hid hsz; clear hsz
        have hl := Sha.len_ext (Sha.loadTo b 64) k
        rw [Sha.len_loadTo] at hl
        by_cases hlt : k < 64
        · have c1 := Sha.cell32 h2 (j := k - 16) (by omega)
          have c2 := Sha.cell32 h2 (j := k - 15) (by omega)
          have c3 := Sha.cell32 h2 (j := k - 7) (by omega)
          have c4 := Sha.cell32 h2 (j := k - 2) (by omega)
          have f1 := Sha.free32 h2 k
          have c5 := Sha.cell32 h2 (j := k) (by omega)
          have HL := Lib.hid hl; clear hl
          have H2 := Lib.hid h2; clear h2
          have q5 : (k : Int) < 64 := by omega
          have q6 : IntKind.i64.wrap ((k : Int) - 16) = (k : Int) - 16 := IntWalk.i64_in _ (by omega)
          have q7 : 16 ≤ (k : Int) := by omega
          have q8 : (k : Int) - 16 < 64 := by omega
          have q9 : ((k : Int) - 16).toNat = k - 16 := by omega
          have q10 : IntKind.i64.wrap ((k : Int) - 7) = (k : Int) - 7 := IntWalk.i64_in _ (by omega)
          have q11 : 7 ≤ (k : Int) := by omega
          have q12 : (k : Int) - 7 < 64 := by omega
          have q13 : ((k : Int) - 7).toNat = k - 7 := by omega
          have q14 : IntKind.i64.wrap ((k : Int) - 15) = (k : Int) - 15 := IntWalk.i64_in _ (by omega)
          have q15 : 15 ≤ (k : Int) := by omega
          have q16 : (k : Int) - 15 < 64 := by omega
          have q17 : ((k : Int) - 15).toNat = k - 15 := by omega
          have q18 : IntKind.i64.wrap ((k : Int) - 2) = (k : Int) - 2 := IntWalk.i64_in _ (by omega)
          have q19 : 2 ≤ (k : Int) := by omega
          have q20 : (k : Int) - 2 < 64 := by omega
          have q21 : ((k : Int) - 2).toNat = k - 2 := by omega
          go_wp2_with fail
          refine wp_region_still_tail 25 (by kernel_rfl) (by kernel_rfl) ?_
          simp only [List.take_succ_cons, List.take_zero, List.drop_succ_cons, List.drop_zero]
          repeat (first | still_step | still_call (moved_any _ _ _ _ _ (by decide) (by decide) (by decide)))
          refine wpStill_nil ?_
          go_wp2_with fail
          go_roundw
          case rel =>
            refine ⟨k + 1, by omega, by omega, by go_num, (hB.setCell (by simp) _).drew, by simp [HS.out], ?_⟩
            show (wr.setCell _ _).heap[_]? = _
            rw [Sha.extTo_succ _ _ (by omega), Sha.extStep, ← a32_swap (Sha.g (Sha.extTo (Sha.loadTo b 64) k) (k - 16)) (Sha.g (Sha.extTo (Sha.loadTo b 64) k) (k - 7)), Sha.sg0, Sha.sg1]
            exact Sha.set32 H2.out _ _
          case measure => simp [intOf]; omega
        · have hk64 : k = 64 := by omega
          subst hk64
          rw [show ((64 : Nat) : Int) = 64 from rfl]
          rw [← Sha.sched_eq] at h2
          obtain ⟨wp, rfl⟩ : ∃ wp : World, wp = wr := ⟨_, rfl⟩
          have HL := Lib.hid hl; clear hl
          have H2 := Lib.hid h2; clear h2
          clear hlt
          have hr8 : wp.rangeAt B 0 (Sha.arr32 h).toList := fun j u hu => by
            have hj : j < 8 := by have := (List.getElem?_eq_some_iff.1 hu).1; simp [Sha.size_arr32, hH.1] at this; exact this
            rw [Nat.zero_add, hB.cell (p := ⟨B, j, none⟩) hBl, hH.word hj, ← Sha.get_arr32 (by rw [hH.1]; exact hj)]
            simpa using hu
          have h8 : (Sha.arr32 h).toList.length = 8 := by simp [Sha.size_arr32, hH.1]
          have h64 : (Sha.arr32 Sha.kon).toList.length = 64 := by simp [Sha.size_arr32, Sha.len_kon]
          have HR8 := Lib.hid hr8; clear hr8
          have L8 := Lib.hid h8; clear h8
          have L64 := Lib.hid h64; clear h64
          have hone : w.heap.size = wp.heap.size - 1 ∧ 1 ≤ wp.heap.size := by have := HS.out; omega
          have hw1 : w.heap.size < wp.heap.size := by omega
          clear hone
          go_wp2_with (first
            | (refine wpList_load_mid rfl 81 _ rfl B 0 rfl (Sha.arr32 h).toList _ HR8.out Tryd.underlying81 rfl (by rw [L8.out]; kernel_rfl) ?_)
            | (refine wpList_store_new rfl 81 _ _ rfl _ 81 _ (Sha.arr32 h) rfl _ rfl rfl rfl (by rw [Sha.size_arr32, hH.1]; kernel_rfl) (by rw [Sha.size_arr32, hH.1]; rfl) (Sha.one_arr32 _) ?_)
            | (refine wpList_load_mid rfl 101 _ rfl 1 0 rfl (Sha.arr32 Sha.kon).toList _ (HK.out.of (by have := HK.out.lt; rw [heap_lt _ _ _ (by omega), hB.block _ (by omega)])) Tryd.underlying101 rfl (by rw [L64.out]; kernel_rfl) ?_))
          go_loopw [11, 12, 13, 14, 69] (fun _ _ _ _ i wr => ∃ k : Nat, k ≤ 64 ∧ i = .int .i64 k ∧ Below w.heap.size w wr ∧ wr.heap.size = wp.heap.size + 1 ∧ wr.heap[w.heap.size]? = some (.cells (Sha.arr32 (Sha.sched b)) 101 (0, 0)) ∧
              wr.heap[wp.heap.size]? = some (.cells (Sha.arr32 (Sha.rndTo (Sha.sched b) h k)) 81 (0, 0)))
            (fun _ _ _ _ i _ => (64 - intOf i).toNat)
          case atStart =>
            refine ⟨0, by omega, rfl, hB.alloc (by omega) _, by simp, ?_, ?_⟩
            · rw [heap_lt _ _ _ (by omega)]; exact H2.out
            · rw [heap_eq _ _ _ rfl, Sha.rndTo_0]
          case round =>
            clear hB HS H2 HL HR8
            obtain ⟨k, hk, rfl, hB, hsz, h2, h4⟩ := hrel
            have HS := Lib.hid hsz; clear hsz
            have hl := Sha.len_rndTo (Sha.sched b) h hH.1 k
            have hl2 := Sha.len_sched b
            by_cases hlt : k < 64
            · have x0 := Sha.cell32 h4 (j := 0) (by omega)
              have x1 := Sha.cell32 h4 (j := 1) (by omega)
              have x2 := Sha.cell32 h4 (j := 2) (by omega)
              have x4 := Sha.cell32 h4 (j := 4) (by omega)
              have x5 := Sha.cell32 h4 (j := 5) (by omega)
              have x6 := Sha.cell32 h4 (j := 6) (by omega)
              have x7 := Sha.cell32 h4 (j := 7) (by omega)
              have c1 := Sha.cell32 h2 (j := k) (by omega)
              have HL := Lib.hid hl; clear hl
              have HL2 := Lib.hid hl2; clear hl2
              have H2 := Lib.hid h2; clear h2
              have H4 := Lib.hid h4; clear h4
              have q5 : (k : Int) < 64 := by omega
              go_wp2_with (refine wpList_index_agg rfl 101 _ _ rfl 80 64 .u32 (Sha.arr32 Sha.kon) .i64 k (.int .u32 ((Sha.g Sha.kon k).toNat : Int)) rfl rfl Tryd.underlying101 (by kernel_rfl) Tryd.underlying80 hlt (Sha.get_arr32 (by rw [Sha.len_kon]; exact hlt)) ?_)
              go_quiet ((go_at_call 64; exact Calls.quiet_of_same (turned_any _ _ _ _ _ (by decide) (by decide) (by decide))))
              go_wp2_with fail
              go_quiet ((go_at_call 64; exact quiet_add_same (turned_any _ _ _ _ _ (by decide) (by decide) (by decide))))
              go_wp2_with fail
              refine wp_region_still_tail 2 (by kernel_rfl) (by kernel_rfl) ?_
              simp only [List.take_succ_cons, List.take_zero, List.drop_succ_cons, List.drop_zero]
              repeat still_step
              refine wpStill_nil ?_
              refine wpList_copy32 rfl _ _ 114 114 80 rfl Tryd.underlying114 (by kernel_rfl) wp.heap.size 1 7 7 0 7 8 (Sha.rndTo (Sha.sched b) h k) _ 81 (by exact H4.out) rfl rfl rfl (by rw [HL.out]; exact Nat.le_refl 8) (Sha.take7 _ HL.out) ?_
              rw [Sha.shift_eq _ HL.out]
              intro w5 h5 hg5 hs5
              have c0 := Sha.cell32 h5 (j := 0) (by rw [Sha.len_shifted]; decide)
              have c4 := Sha.cell32 h5 (j := 4) (by rw [Sha.len_shifted]; decide)
              rw [Sha.g_shifted_0] at c0
              rw [Sha.g_shifted_4] at c4
              have f0 := Sha.free32 h5 0
              have f4 := Sha.free32 h5 4
              have H5 := Lib.hid h5; clear h5
              have HS5 := Lib.hid hs5; clear hs5
              go_wp2_with fail
              go_roundw
              case rel =>
                have hg5' : wr.grownBy w5 (some wp.heap.size) := ⟨hg5.os, hg5.tape, hg5.output, hg5.size, hg5.block⟩
                have hb5 : Below w.heap.size w w5 := hB.grown hg5' (by have := HS.out; omega) (fun x hx => by cases hx; omega)
                refine ⟨k + 1, by omega, by go_num, (hb5.setCell (by simp; omega) _).setCell (by simp; omega) _, ?_, ?_, ?_⟩
                · have h5s := HS5.out
                  simp at h5s ⊢
                  rw [h5s]; exact HS.out
                · rw [heap_ne _ _ _ _ (by simp; omega), heap_ne _ _ _ _ (by simp; omega), hg5'.block _ (by have := HS.out; omega) (fun e => by injection e with e; omega)]
                  exact H2.out
                · rw [Sha.rndTo_succ, ← Sha.rnd_shifted, Sha.uu, Sha.vv, Sha.S1, Sha.S0]
                  exact Sha.set32 (Sha.set32 H5.out 0 _) 4 _
              case measure => simp [intOf]; omega
            · have hk64 : k = 64 := by omega
              subst hk64
              rw [show ((64 : Nat) : Int) = 64 from rfl]
              obtain ⟨wq, rfl⟩ : ∃ wq : World, wq = wr := ⟨_, rfl⟩
              have hH2 : HashIs wq B h v off lr n := hH.frame (hB.block _ hBl)
              have hgr : w.grownBy wq (some B) := grown_of_below hB _
              have hBX : B < wp.heap.size := by omega
              have HL := Lib.hid hl; clear hl
              have H4 := Lib.hid h4; clear h4
              clear hlt h2 hl2 HK
              go_wp2_with fail
              go_loopw [15, 130] (fun _ i wr => ∃ k : Nat, k ≤ 8 ∧ i = .int .i64 k ∧ HashIs wr B (Sha.addTo (Sha.rndTo (Sha.sched b) h 64) h k) v off lr n ∧ w.grownBy wr (some B) ∧ wr.heap[wp.heap.size]? = some (.cells (Sha.arr32 (Sha.rndTo (Sha.sched b) h 64)) 81 (0, 0)))
                (fun _ i _ => (8 - intOf i).toNat)
              case atStart => exact ⟨0, by omega, rfl, by rw [Sha.addTo_0]; exact hH2, hgr, H4.out⟩
              case round =>
                clear hB H4 hH2 hgr
                obtain ⟨k, hk, rfl, hH3, hgr, h4⟩ := hrel
                have HH3 := Lib.hid hH3; clear hH3
                by_cases hlt : k < 8
                · have c1 := HH3.out.word (j := k) hlt
                  have c2 := Sha.cell32 h4 (j := k) (by rw [HL.out]; omega)
                  have f1 := HH3.out.free k
                  have H4 := Lib.hid h4; clear h4
                  have q5 : (k : Int) < 8 := by omega
                  go_wp2_with fail
                  go_still_tail 13, (by kernel_rfl)
                  go_wp2_with fail
                  go_roundw
                  case rel =>
                    refine ⟨k + 1, by omega, by go_num, ?_, grown_drew (grown_set hgr _ _), ?_⟩
                    · rw [Sha.addTo_succ, Sha.addStep]
                      exact (HH3.out.setWord hlt _).frame rfl
                    · show (wr.setCell _ _).heap[_]? = _
                      rw [heap_ne _ _ _ _ (by simp; omega)]; exact H4.out
                  case measure => simp [intOf]; omega
                · have hk8 : k = 8 := by omega
                  subst hk8
                  have hfin := HH3.out
                  rw [← Sha.blk_eq] at hfin
                  have HF := Lib.hid hfin; clear hfin
                  clear h4
                  go_wp2_with fail
                  go_end0
                  exact ⟨rfl, HF.out, hgr⟩
end Go.Proofs.YtdnigbbfiklaoaaDoor
