/- The reference's SHA-256: a block. -/
import Derived.Test.YtdnigbbfiklaoaaDoorProg
import Derived.Test.YtdnigbbfiklaoaaDoorShaSpec
import Derived.Test.YtdnigbbfiklaoaaDoorLaws
namespace Go.Proofs.YtdnigbbfiklaoaaDoor
open Go.RowKit
def z80 : Array Value := Sha.arr64 (List.replicate 80 0)
def k80 : Array Value := Sha.arr64 Sha.rounds64
set_option maxHeartbeats 400000 in
set_option maxRecDepth 100000 in
theorem rounds_any (w : World) :
    Calls Tryd.prog 59 #[] w fun e w' => e = .returned (.agg k80) ∧ w' = w.alloc (.cells k80 103) := by
  obtain ⟨hz, hi⟩ := (zero_of_info (P := Tryd.prog) (t := 103) (v := .agg z80) (n := 80) (by kernel_rfl))
  go_enter Tryd.func59, Tryd.ntmps59
  go_wp2_with (first | (refine wpList_build_to rfl 103 _ rfl k80 (by kernel_rfl) ?_) | (refine wpList_store_new rfl 103 _ _ rfl w 103 z80 k80 rfl _ rfl rfl rfl (by kernel_rfl) (by kernel_rfl) (Sha.one_arr64 _) ?_))
  refine bodyPost_ret (v := .agg k80) (results_cell_row rfl _ _ w.heap.size 103 k80 (0, 0) _ rfl (heap_alloc_last _ _) Tryd.underlying103 rfl (by kernel_rfl)) rfl ⟨rfl, rfl⟩
set_option maxHeartbeats 400000 in
theorem turn_any (x : UInt32) (n : Int) (w : World) (h0 : 0 ≤ n) (h1 : n ≤ 32) :
    Calls Tryd.prog 58 #[.int .u32 x.toNat, .int .u64 n] w fun e w' => e = .returned (.int .u32 (Sha.rotr x n.toNat).toNat) ∧ w' = w := by
  have h2 : 0 ≤ 32 - n := by omega
  go_enter Tryd.func58, Tryd.ntmps58
  go_wp2
  go_ret
  exact ⟨ret_int (by rw [Sha.rotr, show (32 - n).toNat = 32 - n.toNat by omega]), rfl⟩
set_option maxHeartbeats 1000000 in
set_option maxRecDepth 100000 in
theorem rblock_any (h : List UInt32) (hh : h.length = 8) (b : List UInt8) (B off : Nat) (cap : Nat) (w : World) (hBs : B < w.heap.size)
    (hc : ∀ j, j < 64 → w.cell? ⟨B, off + j, none⟩ = some (.int .u8 (Sha.gb b j).toNat)) :
    Calls Tryd.prog 45 #[.agg (Sha.arr32 h), .slice (some ⟨B, off, none⟩) 64 cap] w fun e w' => e = .returned (.agg (Sha.arr32 (Sha.blk h b))) ∧ Below w.heap.size w w' := by
  go_enter Tryd.func45, Tryd.ntmps45
  go_wp2_with fail
  go_loopw [6] (fun i wr => ∃ k : Nat, k ≤ 64 ∧ i = .int .i64 k ∧ Below w.heap.size w wr ∧ wr.heap.size = w.heap.size + 3 ∧ wr.heap[w.heap.size]? = some (.cells (Sha.arr32 h) 81 (0, 0)) ∧
      wr.heap[w.heap.size + 1]? = some (.cells (Sha.arr32 (List.replicate 8 0)) 81 (0, 0)) ∧ wr.heap[w.heap.size + 1 + 1]? = some (.cells (Sha.arr32 (Sha.loadTo b k)) 101 (0, 0)))
    (fun i _ => (64 - intOf i).toNat)
  case atStart => 
    refine ⟨0, by omega, rfl, (((Below.refl _ _).alloc (Nat.le_refl _) _).alloc (by simp) _).alloc (by simp; omega) _, by simp, ?_, ?_, ?_⟩
    · rw [heap_lt _ _ _ (by simp; omega), heap_lt _ _ _ (by simp), heap_eq _ _ _ rfl]
    · rw [heap_lt _ _ _ (by simp), heap_eq _ _ _ (by simp)]; simp [Sha.arr32]
    · rw [heap_eq _ _ _ (by simp), Sha.loadTo_0]; simp [Sha.arr32]
  case round =>
    obtain ⟨k, hk, rfl, hB, hsz, h0, h1, h2⟩ := hrel
    have HS := Lib.hid hsz; clear hsz
    have hl := Sha.len_loadTo b k
    by_cases hlt : k < 64
    · have c1 := Sha.cell32 h2 (j := k / 4) (by omega)
      have c2 : wr.cell? ⟨B, off + k, none⟩ = some (.int .u8 (Sha.gb b k).toNat) := by rw [hB.cell (p := ⟨B, off + k, none⟩) hBs]; exact hc k hlt
      have f1 := Sha.free32 h2 (k / 4)
      have HL := Lib.hid hl; clear hl
      have H0 := Lib.hid h0; clear h0
      have H1 := Lib.hid h1; clear h1
      have H2 := Lib.hid h2; clear h2
      clear hc
      have q1 : IntKind.i64.wrap ((k : Int) / 4) = (k : Int) / 4 := IntWalk.i64_in _ (by omega)
      have q2 : 0 ≤ (k : Int) / 4 := by omega
      have q3 : (k : Int) / 4 < 64 := by omega
      have q4 : ((k : Int) / 4).toNat = k / 4 := by omega
      have q5 : (k : Int) < 64 := by omega
      go_wp2_with fail
      go_still_tail 14, (by kernel_rfl)
      go_wp2_with fail
      go_roundw
      case rel => 
        refine ⟨k + 1, by omega, by go_num, (hB.setCell (by simp; omega) _).drew, by simp [HS.out], ?_, ?_, ?_⟩
        · show (wr.setCell _ _).heap[_]? = _
          rw [heap_setCell_other _ _ _ _ (by simp; omega)]; exact H0.out
        · show (wr.setCell _ _).heap[_]? = _
          rw [heap_setCell_other _ _ _ _ (by simp)]; exact H1.out
        · show (wr.setCell _ _).heap[_]? = _
          rw [Sha.loadTo_succ, Sha.loadStep]; exact Sha.set32 H2.out _ _
      case measure => simp [intOf]; omega
    · have hk64 : k = 64 := by omega
      subst hk64
      rw [show ((64 : Nat) : Int) = 64 from rfl]
      obtain ⟨wo, rfl⟩ : ∃ wo : World, wo = wr := ⟨_, rfl⟩
      have HL := Lib.hid hl; clear hl
      have H0 := Lib.hid h0; clear h0
      have H1 := Lib.hid h1; clear h1
      have H2 := Lib.hid h2; clear h2
      clear hc hlt
      go_wp2_with fail
      go_loopw [7, 8, 9] (fun i _ _ wr => ∃ k : Nat, 16 ≤ k ∧ k ≤ 64 ∧ i = .int .i64 k ∧ Below w.heap.size w wr ∧ wr.heap.size = w.heap.size + 3 ∧ wr.heap[w.heap.size]? = some (.cells (Sha.arr32 h) 81 (0, 0)) ∧
          wr.heap[w.heap.size + 1]? = some (.cells (Sha.arr32 (List.replicate 8 0)) 81 (0, 0)) ∧ wr.heap[w.heap.size + 1 + 1]? = some (.cells (Sha.arr32 (Sha.extTo (Sha.loadTo b 64) k)) 101 (0, 0)))
        (fun i _ _ _ => (64 - intOf i).toNat)
      case atStart => exact ⟨16, by omega, by omega, rfl, hB, HS.out, H0.out, H1.out, by rw [Sha.extTo_16]; exact H2.out⟩
      case round =>
        clear hB HS H0 H1 H2 HL
        obtain ⟨k, hk16, hk, rfl, hB, hsz, h0, h1, h2⟩ := hrel
        have HS := Lib.hid hsz; clear hsz
        have hl := Sha.len_ext (Sha.loadTo b 64) k
        rw [Sha.len_loadTo] at hl
        by_cases hlt : k < 64
        · have c1 := Sha.cell32 h2 (j := k - 16) (by omega)
          have c2 := Sha.cell32 h2 (j := k - 15) (by omega)
          have c3 := Sha.cell32 h2 (j := k - 7) (by omega)
          have c4 := Sha.cell32 h2 (j := k - 2) (by omega)
          have f1 := Sha.free32 h2 k
          have c5 := Sha.cell32 h2 (j := k) (by omega)
          have HL := Lib.hid hl; clear hl
          have H0 := Lib.hid h0; clear h0
          have H1 := Lib.hid h1; clear h1
          have H2 := Lib.hid h2; clear h2
          have q5 : (k : Int) < 64 := by omega
          have q6 : IntKind.i64.wrap ((k : Int) - 16) = (k : Int) - 16 := IntWalk.i64_in _ (by omega)
          have q7 : 16 ≤ (k : Int) := by omega
          have q8 : (k : Int) - 16 < 64 := by omega
          have q9 : ((k : Int) - 16).toNat = k - 16 := by omega
          have q10 : IntKind.i64.wrap ((k : Int) - 7) = (k : Int) - 7 := IntWalk.i64_in _ (by omega)
          have q11 : 7 ≤ (k : Int) := by omega
          have q12 : (k : Int) - 7 < 64 := by omega
          have q13 : ((k : Int) - 7).toNat = k - 7 := by omega
          go_wp2_with fail
          refine wp_region_still_tail 29 (by kernel_rfl) (by kernel_rfl) ?_
          simp only [List.take_succ_cons, List.take_zero, List.drop_succ_cons, List.drop_zero]
          repeat (first | still_step | still_call (turn_any _ _ _ (by omega) (by omega)))
          refine wpStill_nil ?_
          go_wp2_with fail
          go_roundw
          case rel =>
            refine ⟨k + 1, by omega, by omega, by go_num, (hB.setCell (by simp; omega) _).drew, by simp [HS.out], ?_, ?_, ?_⟩
            · show (wr.setCell _ _).heap[_]? = _
              rw [heap_setCell_other _ _ _ _ (by simp; omega)]; exact H0.out
            · show (wr.setCell _ _).heap[_]? = _
              rw [heap_setCell_other _ _ _ _ (by simp)]; exact H1.out
            · show (wr.setCell _ _).heap[_]? = _
              rw [Sha.extTo_succ _ _ (by omega), Sha.extStep, Sha.sg0, Sha.sg1]; exact Sha.set32 H2.out _ _
          case measure => simp [intOf]; omega
        · have hk64 : k = 64 := by omega
          subst hk64
          rw [show ((64 : Nat) : Int) = 64 from rfl]
          obtain ⟨wp, rfl⟩ : ∃ wp : World, wp = wr := ⟨_, rfl⟩
          obtain ⟨hz, hi⟩ := (zero_of_info (P := Tryd.prog) (t := 103) (v := .agg z80) (n := 80) (by kernel_rfl))
          have h3 : wp.heap.size = w.heap.size + 1 + 1 + 1 := HS.out
          have hn : w.heap.size < wp.heap.size := by omega
          have HS3 := Lib.hid h3; clear h3
          have HL := Lib.hid hl; clear hl
          have H0 := Lib.hid h0; clear h0
          have H1 := Lib.hid h1; clear h1
          have H2 := Lib.hid h2; clear h2
          clear hlt
          go_wp2_with (first
            | (go_at_call 59; refine (rounds_any _).mono ?_; rintro e w' ⟨rfl, rfl⟩)
            | (refine wpList_store_new rfl 103 _ _ rfl _ 103 z80 k80 rfl _ rfl (by simp) rfl (by kernel_rfl) (by kernel_rfl) (Sha.one_arr64 _) ?_)
            | (refine wpList_load_row rfl 81 _ rfl w.heap.size rfl 81 (Sha.arr32 h) (0, 0) _ (by rw [heap_lt _ _ _ (by simp; omega), heap_lt _ _ _ (by omega)]; exact H0.out) Tryd.underlying81 rfl (by rw [Sha.size_arr32, hh]; kernel_rfl) ?_)
            | (refine wpList_store_new rfl 81 _ _ rfl _ 81 _ (Sha.arr32 h) rfl _ rfl (by simp) rfl (by rw [Sha.size_arr32, hh]; kernel_rfl) (by rw [Sha.size_arr32, hh]; rfl) (Sha.one_arr32 _) ?_))
          go_loopw [12, 13, 14] (fun i _ _ wr => ∃ k : Nat, k ≤ 64 ∧ i = .int .i64 k ∧ Below w.heap.size w wr ∧ wr.heap.size = wp.heap.size + 3 ∧ wr.heap[w.heap.size]? = some (.cells (Sha.arr32 h) 81 (0, 0)) ∧
              wr.heap[w.heap.size + 1]? = some (.cells (Sha.arr32 (List.replicate 8 0)) 81 (0, 0)) ∧ wr.heap[w.heap.size + 1 + 1]? = some (.cells (Sha.arr32 (Sha.sched b)) 101 (0, 0)) ∧
              wr.heap[wp.heap.size + 1]? = some (.cells (Sha.arr64 Sha.rounds64) 103 (0, 0)) ∧ wr.heap[wp.heap.size + 1 + 1]? = some (.cells (Sha.arr32 (Sha.rndTo (Sha.sched b) h k)) 81 (0, 0)))
            (fun i _ _ _ => (64 - intOf i).toNat)
          case atStart =>
            refine ⟨0, by omega, rfl, ((hB.alloc (by omega) _).alloc (by simp; omega) _).alloc (by simp; omega) _, by simp, ?_, ?_, ?_, ?_, ?_⟩
            · rw [heap_lt _ _ _ (by simp; omega), heap_lt _ _ _ (by simp; omega), heap_lt _ _ _ (by omega)]; exact H0.out
            · rw [heap_lt _ _ _ (by simp; have := HS.out; omega), heap_lt _ _ _ (by simp; have := HS.out; omega), heap_lt _ _ _ (by have := HS.out; omega)]; exact H1.out
            · rw [heap_lt _ _ _ (by simp; have := HS.out; omega), heap_lt _ _ _ (by simp; have := HS.out; omega), heap_lt _ _ _ (by have := HS.out; omega), Sha.sched_eq]; exact H2.out
            · rw [heap_lt _ _ _ (by simp), heap_eq _ _ _ (by simp)]; rfl
            · rw [heap_eq _ _ _ (by simp), Sha.rndTo_0]
          case round =>
            clear hB H0 H1 H2 HL hz hi
            obtain ⟨k, hk, rfl, hB, hsz, h0, h1, h2, h3, h4⟩ := hrel
            have HSr := Lib.hid hsz; clear hsz
            have hl := Sha.len_rndTo (Sha.sched b) h hh k
            have hl2 := Sha.len_sched b
            by_cases hlt : k < 64
            · have x0 := Sha.cell32 h4 (j := 0) (by omega)
              have x1 := Sha.cell32 h4 (j := 1) (by omega)
              have x2 := Sha.cell32 h4 (j := 2) (by omega)
              have x3 := Sha.cell32 h4 (j := 3) (by omega)
              have x4 := Sha.cell32 h4 (j := 4) (by omega)
              have x5 := Sha.cell32 h4 (j := 5) (by omega)
              have x6 := Sha.cell32 h4 (j := 6) (by omega)
              have x7 := Sha.cell32 h4 (j := 7) (by omega)
              have c1 := Sha.cell32 h2 (j := k) (by omega)
              have c2 := Sha.cell64 h3 (j := k) (by rw [Sha.len_rounds64]; omega)
              have kk := Sha.kon_of k hlt
              have HL := Lib.hid hl; clear hl
              have HL2 := Lib.hid hl2; clear hl2
              have H0 := Lib.hid h0; clear h0
              have H1 := Lib.hid h1; clear h1
              have H2 := Lib.hid h2; clear h2
              have H3 := Lib.hid h3; clear h3
              have H4 := Lib.hid h4; clear h4
              have q5 : (k : Int) < 64 := by omega
              go_wp2_with fail
              go_quiet ((go_at_call 58; exact Calls.quiet_of_same (turn_any _ _ _ (by omega) (by omega))))
              go_wp2_with fail
              go_quiet ((go_at_call 58; exact quiet_add_same (turn_any _ _ _ (by omega) (by omega))))
              go_wp2_with (first
                | (refine wpList_build_to rfl 81 _ rfl (Sha.arr32 (Sha.rnd (Sha.sched b) (Sha.rndTo (Sha.sched b) h k) k)) (by kernel_rfl) ?_)
                | (refine wpList_store_row rfl 81 _ _ rfl (wp.heap.size + 1 + 1) (Sha.arr32 (Sha.rnd (Sha.sched b) (Sha.rndTo (Sha.sched b) h k) k)) rfl rfl 81 (Sha.arr32 (Sha.rndTo (Sha.sched b) h k)) (by exact H4.out) (by rw [Sha.size_arr32]; kernel_rfl) (by rw [Sha.size_arr32, Sha.size_arr32, HL.out, Sha.len_rnd]) (Sha.one_arr32 _) ?_))
              go_roundw
              case rel =>
                refine ⟨k + 1, by omega, by go_num, below_setRow (below_dn hB _) (by omega) _, by simp [HSr.out], ?_, ?_, ?_, ?_, ?_⟩
                · rw [row_ne _ _ _ _ (by omega)]; exact H0.out
                · rw [row_ne _ _ _ _ (by have := HS.out; omega)]; exact H1.out
                · rw [row_ne _ _ _ _ (by have := HS.out; omega)]; exact H2.out
                · rw [row_ne _ _ _ _ (by omega)]; exact H3.out
                · rw [Sha.rndTo_succ]; exact setRow_heap _ _ _ _ _ _ H4.out
              case measure => simp [intOf]; omega
            · have hk64 : k = 64 := by omega
              subst hk64
              rw [show ((64 : Nat) : Int) = 64 from rfl]
              obtain ⟨wq, rfl⟩ : ∃ wq : World, wq = wr := ⟨_, rfl⟩
              have HL := Lib.hid hl; clear hl
              have HL2 := Lib.hid hl2; clear hl2
              have H0 := Lib.hid h0; clear h0
              have H1 := Lib.hid h1; clear h1
              have H4 := Lib.hid h4; clear h4
              clear hlt h2 h3
              go_wp2_with fail
              go_loopw [15] (fun i wr => ∃ k : Nat, k ≤ 8 ∧ i = .int .i64 k ∧ Below w.heap.size w wr ∧ wr.heap.size = wp.heap.size + 3 ∧ wr.heap[w.heap.size]? = some (.cells (Sha.arr32 (Sha.addTo (Sha.rndTo (Sha.sched b) h 64) h k)) 81 (0, 0)) ∧
                  wr.heap[w.heap.size + 1]? = some (.cells (Sha.arr32 (List.replicate 8 0)) 81 (0, 0)) ∧ wr.heap[wp.heap.size + 1 + 1]? = some (.cells (Sha.arr32 (Sha.rndTo (Sha.sched b) h 64)) 81 (0, 0)))
                (fun i _ => (8 - intOf i).toNat)
              case atStart => exact ⟨0, by omega, rfl, hB, HSr.out, by rw [Sha.addTo_0]; exact H0.out, H1.out, H4.out⟩
              case round =>
                clear hB H0 H1 H4 HL2 HSr
                obtain ⟨k, hk, rfl, hB, hsz, h0, h1, h4⟩ := hrel
                have HSr := Lib.hid hsz; clear hsz
                have hl3 := Sha.len_addTo (Sha.rndTo (Sha.sched b) h 64) h k
                rw [hh] at hl3
                by_cases hlt : k < 8
                · have c1 := Sha.cell32 h0 (j := k) (by omega)
                  have c2 := Sha.cell32 h4 (j := k) (by rw [HL.out]; omega)
                  have f1 := Sha.free32 h0 k
                  have HL3 := Lib.hid hl3; clear hl3
                  have H0 := Lib.hid h0; clear h0
                  have H1 := Lib.hid h1; clear h1
                  have H4 := Lib.hid h4; clear h4
                  have q5 : (k : Int) < 8 := by omega
                  go_wp2_with fail
                  go_still_tail 9, (by kernel_rfl)
                  go_wp2_with fail
                  go_roundw
                  case rel =>
                    refine ⟨k + 1, by omega, by go_num, (hB.setCell (by simp) _).drew, by simp [HSr.out], ?_, ?_, ?_⟩
                    · show (wr.setCell _ _).heap[_]? = _
                      rw [Sha.addTo_succ, Sha.addStep]; exact Sha.set32 H0.out _ _
                    · show (wr.setCell _ _).heap[_]? = _
                      rw [heap_ne _ _ _ _ (by simp)]; exact H1.out
                    · show (wr.setCell _ _).heap[_]? = _
                      rw [heap_ne _ _ _ _ (by simp; omega)]; exact H4.out
                  case measure => simp [intOf]; omega
                · have hk8 : k = 8 := by omega
                  subst hk8
                  rw [← Sha.blk_eq] at h0
                  have hb8 : (Sha.arr32 (Sha.blk h b)).size = 8 := by rw [Sha.size_arr32, Sha.len_blk _ _ hh]
                  have HB := Lib.hid hb8; clear hb8
                  have HL3 := Lib.hid hl3; clear hl3
                  have H0 := Lib.hid h0; clear h0
                  have H1 := Lib.hid h1; clear h1
                  clear h4
                  go_wp2_with (first
                    | (refine wpList_load_row rfl 81 _ rfl w.heap.size rfl 81 (Sha.arr32 (Sha.blk h b)) (0, 0) _ (by exact H0.out) Tryd.underlying81 rfl (by rw [HB.out]; kernel_rfl) ?_)
                    | (refine wpList_store_row rfl 81 _ _ rfl (w.heap.size + 1) (Sha.arr32 (Sha.blk h b)) rfl rfl 81 (Sha.arr32 (List.replicate 8 0)) (by exact H1.out) (by rw [HB.out]; kernel_rfl) (by rw [HB.out, Sha.size_arr32]; rfl) (Sha.one_arr32 _) ?_))
                  refine bodyPost_ret (v := .agg (Sha.arr32 (Sha.blk h b))) (results_cell_row rfl _ _ (w.heap.size + 1) 81 _ (0, 0) _ rfl (setRow_heap _ _ _ _ _ _ H1.out) Tryd.underlying81 rfl (by rw [HB.out]; kernel_rfl)) rfl ⟨rfl, below_setRow hB (by omega) _⟩
end Go.Proofs.YtdnigbbfiklaoaaDoor
