/- The reference's SHA-256: a whole text. -/
import Derived.Test.YtdnigbbfiklaoaaDoorShaRef
import Derived.Test.YtdnigbbfiklaoaaDoorOwn
namespace Go.Proofs.YtdnigbbfiklaoaaDoor
open Go.RowKit
def f8 : Array Value := Sha.arr64 Sha.first64
set_option maxHeartbeats 400000 in
set_option maxRecDepth 100000 in
theorem first_any (w : World) :
    Calls Tryd.prog 44 #[] w fun e w' => e = .returned (.agg f8) ∧ w' = w.alloc (.cells f8 82) := by
  go_enter Tryd.func44, Tryd.ntmps44
  go_wp2_with (first | (refine wpList_build_to rfl 82 _ rfl f8 (by kernel_rfl) ?_) | (refine wpList_store_new rfl 82 _ _ rfl w 82 _ f8 rfl _ rfl rfl rfl (by kernel_rfl) (by kernel_rfl) (Sha.one_arr64 _) ?_))
  refine bodyPost_ret (v := .agg f8) (results_cell_row rfl _ _ w.heap.size 82 f8 (0, 0) _ rfl (heap_alloc_last _ _) Tryd.underlying82 rfl (by kernel_rfl)) rfl ⟨rfl, rfl⟩
theorem btinfo : ∃ i, BT Tryd.prog 41 5 9 i := by
  have h : (Tryd.prog.info? 5).map (fun i => (i.zero, i.size, i.bytes)) = some (some (.int .u8 0), 1, 1) := by kernel_rfl
  cases hq : Tryd.prog.info? 5 with
  | none => simp [hq] at h
  | some i =>
    simp only [hq, Option.map_some, Option.some.injEq, Prod.mk.injEq] at h
    exact ⟨i, ⟨Tryd.underlying41, Tryd.underlying5, Tryd.underlying9, hq, h.1, h.2.1, h.2.2⟩⟩
set_option maxHeartbeats 1000000 in
set_option maxRecDepth 100000 in
theorem rOf_any (l : List UInt8) (w : World) (hs : l.length ≤ 1000000) :
    Calls Tryd.prog 32 #[.string ⟨l.toArray⟩] w fun e w' => e = .returned (.string ⟨(Sha.sha l).toArray⟩) ∧ Below w.heap.size w w' := by
  obtain ⟨i, bt⟩ := btinfo
  go_enter Tryd.func32, Tryd.ntmps32
  go_wp2_with (first
    | (refine wpList_sbl bt rfl _ rfl _ rfl (l ++ [128]) (by simp) (by simp; omega) ?_; intro cap w1 h1 hz1 hb1))
  have HZ1 := Lib.hid hz1; clear hz1
  go_loopw [3] (fun v wr => ∃ (k : Nat) (p : Option Addr) (cap : Nat), k ≤ Sha.nz l.length ∧ v = .slice p (l.length + 1 + k) cap ∧ OwnB wr w.heap.size p cap (l ++ [128] ++ List.replicate k 0) ∧ Below w.heap.size w wr)
    (fun v _ => l.length + 1 + 64 - lenV v)
  case atStart => exact ⟨0, _, _, by omega, rfl, by simpa using h1, hb1⟩
  case round =>
    obtain ⟨k, p, cap2, hk, rfl, h2, hb2⟩ := hrel
    have hnz := Sha.nz_lt l.length
    have hat := Sha.nz_at l.length k (by omega)
    by_cases hlt : k < Sha.nz l.length
    · have hne : (l.length + 1 + k) % 64 ≠ 56 := fun e => by have := hat.1 e; omega
      have HAT := Lib.hid hat; clear hat
      go_wp2_with (first
        | (refine wpList_push bt rfl _ _ rfl _ _ _ rfl 0 rfl w.heap.size p cap2 _ (l ++ [128] ++ List.replicate k 0) rfl (by simp; omega) h2 _ _ rfl rfl (by simp; omega) (by have := hb2.size; omega) ?_; intro p3 cap3 w3 h3 hg3))
      go_roundw
      case rel =>
        have hw3 := (hb2.alloc (by have := hb2.size; omega) (Obj.cells #[Value.int IntKind.u8 0] 5)).grown hg3 (by simp; have := hb2.size; omega) h2.base
        refine ⟨k + 1, p3, cap3, by omega, by rw [Nat.add_assoc (l.length + 1)], ?_, hw3⟩
        rw [List.replicate_succ', ← List.append_assoc]; exact h3
      case measure => simp only [lenV]; omega
    · have hkz : k = Sha.nz l.length := by omega
      have he : (l.length + 1 + k) % 64 = 56 := hat.2 hkz
      have HAT := Lib.hid hat; clear hat
      have HKZ := Lib.hid hkz; clear hkz
      have d1 : (((l.length : Int) + 1 + (k : Int)) % 64 != 56) = false := by rw [bne_eq_false_iff_eq]; omega
      clear hlt he
      go_wp2_with fail
      clear d1
      obtain ⟨wo, rfl⟩ : ∃ wo : World, wo = wr := ⟨_, rfl⟩
      go_loopw [3, 4] (fun v i wr => ∃ (j : Nat) (p : Option Addr) (cap : Nat), j ≤ 8 ∧ i = .int .i64 (7 - (j : Int)) ∧ v = .slice p (l.length + 1 + k + j) cap ∧ OwnB wr w.heap.size p cap (l ++ [128] ++ List.replicate k 0 ++ Sha.lenB l.length j) ∧ Below w.heap.size w wr)
        (fun _ i _ => (8 + intOf i).toNat)
      case atStart => exact ⟨0, p, cap2, by omega, rfl, rfl, by rw [Sha.lenB_0, List.append_nil]; exact h2, hb2⟩
      case round =>
        clear h2 hb2
        obtain ⟨j, p, cap2, hj, rfl, rfl, h2, hb2⟩ := hrel
        by_cases hlt : j < 8
        · have hj7 : 0 ≤ 7 - (j : Int) := by omega
          go_wp2_with (first
            | (refine wpList_push bt rfl _ _ rfl _ _ _ rfl (U.c64_8 (U.r64 (U.m64 8 (UInt64.ofNat l.length)) (56 - 8 * j))) (by rw [Sha.lenB_byte _ _ hs, show 56 - 8 * j = 8 * (7 - j) by omega]) w.heap.size p cap2 _ (l ++ [128] ++ List.replicate k 0 ++ Sha.lenB l.length j) rfl (by simp [Sha.len_lenB]; omega) h2 _ _ rfl rfl (by simp [Sha.len_lenB]; omega) (by have := hb2.size; omega) ?_; intro p3 cap3 w3 h3 hg3))
          go_roundw
          case rel =>
            have hw3 := (hb2.alloc (by have := hb2.size; omega) _).grown hg3 (by simp; have := hb2.size; omega) h2.base
            refine ⟨j + 1, p3, cap3, by omega, by go_num, by rw [Nat.add_assoc (l.length + 1 + k)], ?_, hw3⟩
            rw [Sha.lenB_succ, ← List.append_assoc]; exact h3
          case measure => simp [intOf]; omega
        · have hj8 : j = 8 := by omega
          subst hj8
          have hP : l ++ [128] ++ List.replicate k 0 ++ Sha.lenB l.length 8 = Sha.pad l := by rw [HKZ.out]; unfold Sha.pad; rfl
          rw [hP] at h2
          have hlen : l.length + 1 + k + 8 = (Sha.pad l).length := by rw [Sha.len_pad, ← HKZ.out]
          rw [hlen]
          obtain ⟨g, off, rfl, hbg, hcap, hgl⟩ := h2.isAt (by omega)
          have hpm := Sha.pad_mod l
          have hPle : (Sha.pad l).length ≤ 1000100 := by omega
          clear hP hlt
          generalize hPe : Sha.pad l = P at *
          have HPE := Lib.hid hPe; clear hPe
          have HLEN := Lib.hid hlen; clear hlen
          have HPM := Lib.hid hpm; clear hpm
          go_wp2_with (first
            | (go_at_call 44; refine (first_any _).mono ?_; rintro e w' ⟨rfl, rfl⟩)
            | (refine wpList_store_new rfl 82 _ _ rfl _ 82 _ f8 rfl _ rfl (by simp) rfl (by kernel_rfl) (by kernel_rfl) (Sha.one_arr64 _) ?_))
          obtain ⟨wq, rfl⟩ : ∃ wq : World, wq = wr := ⟨_, rfl⟩
          have hsz := hb2.size
          go_loopw [7] (fun i wr => ∃ k : Nat, k ≤ 8 ∧ i = .int .i64 k ∧ OwnB wr w.heap.size (some ⟨g, off, none⟩) cap2 P ∧ Below w.heap.size w wr ∧ wr.heap.size = wq.heap.size + 3 ∧ wr.heap[wq.heap.size]? = some (.cells (Sha.arr32 (Sha.fst k)) 81 (0, 0)) ∧
              wr.heap[wq.heap.size + 1 + 1]? = some (.cells (Sha.arr64 Sha.first64) 82 (0, 0)))
            (fun i _ => (8 - intOf i).toNat)
          case atStart =>
            refine ⟨0, by omega, rfl, ((Own.alloc h2 _).alloc _).alloc _, ((hb2.alloc (by omega) _).alloc (by simp; omega) _).alloc (by simp; omega) _, by simp, ?_, ?_⟩
            · rw [heap_lt _ _ _ (by simp; omega), heap_lt _ _ _ (by simp), heap_eq _ _ _ (by simp), Sha.fst_0]; simp [Sha.arr32]
            · rw [heap_eq _ _ _ (by simp)]; rfl
          case round =>
            clear hb2 h2
            obtain ⟨k, hk, rfl, h2, hb2, hsx, h8, h9⟩ := hrel
            have HSX := Lib.hid hsx; clear hsx
            have hl := Sha.len_fst k hk
            by_cases hlt : k < 8
            · have c1 := Sha.cell64 h9 (j := k) (by rw [Sha.len_first64]; omega)
              have c2 := Sha.cell32 h8 (j := k) (by omega)
              have f1 := Sha.free32 h8 k
              have hfo := Sha.first_of k hlt
              have HL := Lib.hid hl; clear hl
              have H8 := Lib.hid h8; clear h8
              have H9 := Lib.hid h9; clear h9
              have q5 : (k : Int) < 8 := by omega
              go_wp2_with fail
              go_roundw
              case rel =>
                refine ⟨k + 1, by omega, by go_num, Own.setOther h2 _ _ (fun x hx => by cases hx; simp; omega), hb2.setCell (by simp; omega) _, by simp [HSX.out], ?_, ?_⟩
                · rw [← Sha.fst_set k hlt]; exact Sha.set32 H8.out _ _
                · rw [heap_ne _ _ _ _ (by simp; omega)]; exact H9.out
              case measure => simp [intOf]; omega
            · have hk8 : k = 8 := by omega
              subst hk8
              rw [show ((8 : Nat) : Int) = 8 from rfl]
              rw [Sha.fst_8] at h8
              have HL := Lib.hid hl; clear hl
              have H8 := Lib.hid h8; clear h8
              have H9 := Lib.hid h9; clear h9
              obtain ⟨wt, rfl⟩ : ∃ wt : World, wt = wr := ⟨_, rfl⟩
              clear hlt
              go_wp2_with fail
              have hdiv : P.length = 64 * (P.length / 64) := by have := HPM.out; omega
              have HD := Lib.hid hdiv; clear hdiv
              go_loopw [8] (fun i wr => ∃ k : Nat, k ≤ P.length / 64 ∧ i = .int .i64 (64 * (k : Int)) ∧ OwnB wr w.heap.size (some ⟨g, off, none⟩) cap2 P ∧ Below w.heap.size w wr ∧ wq.heap.size + 3 ≤ wr.heap.size ∧ wr.heap[wq.heap.size]? = some (.cells (Sha.arr32 (Sha.runTo P Sha.first k)) 81 (0, 0)))
                (fun i _ => (P.length - intOf i).toNat)
              case atStart => exact ⟨0, by omega, rfl, h2, hb2, by have := HSX.out; omega, by rw [Sha.runTo_0]; exact H8.out⟩
              case round =>
                clear hb2 h2 HSX H8 H9
                obtain ⟨k, hk, rfl, h2, hb2, hsx, h8⟩ := hrel
                by_cases hlt : k < P.length / 64
                · have hl := Sha.len_runTo P Sha.first Sha.len_first k
                  have hk1 : 64 * k + 64 ≤ P.length := by omega
                  have q1 : IntKind.i64.wrap (64 * (k : Int) + 64) = 64 * (k : Int) + 64 := IntWalk.i64_in _ (by omega)
                  have q2 : 0 ≤ 64 * (k : Int) := by omega
                  have q3 : 64 * (k : Int) ≤ 64 * (k : Int) + 64 := by omega
                  have q4 : 64 * (k : Int) + 64 ≤ (cap2 : Int) := by omega
                  have q5 : 64 * (k : Int) < (P.length : Int) := by omega
                  have hcc : ∀ j, j < 64 → wr.cell? ⟨g, off + 64 * k + j, none⟩ = some (.int .u8 ((Sha.gb (Sha.chunk P k) j).toNat : Int)) := fun j hj => by
                    rw [Sha.gb_eq, Sha.chunk_eq]
                    exact (OwnB.cut h2 (64 * k) (64 * k + 64) (by omega) hk1).cell (by simp; omega)
                  have HCC := Lib.hid hcc; clear hcc
                  have HL := Lib.hid hl; clear hl
                  have H8 := Lib.hid h8; clear h8
                  have hgw : g < wr.heap.size := by omega
                  go_wp2_with fail
                  refine wp_region_still_tail 6 (by kernel_rfl) (by kernel_rfl) ?_
                  simp only [List.take_succ_cons, List.take_zero, List.drop_succ_cons, List.drop_zero]
                  refine wpStill_load_row rfl 81 _ rfl wq.heap.size rfl 81 (Sha.arr32 (Sha.runTo P Sha.first k)) (0, 0) _ (by exact H8.out) Tryd.underlying81 rfl (by rw [Sha.size_arr32, HL.out]; kernel_rfl) ?_
                  repeat still_step
                  refine wpStill_nil ?_
                  go_wp2_with fail
                  refine (rblock_any (Sha.runTo P Sha.first k) HL.out (Sha.chunk P k) g (off + 64 * k) (cap2 - 64 * k) wr.drew hgw HCC.out).mono ?_
                  rintro e w1 ⟨rfl, hb1⟩
                  go_wp2_with (first
                    | (refine wpList_store_row rfl 81 _ _ rfl wq.heap.size (Sha.arr32 (Sha.blk (Sha.runTo P Sha.first k) (Sha.chunk P k))) rfl rfl 81 (Sha.arr32 (Sha.runTo P Sha.first k)) (by rw [hb1.block _ (by show wq.heap.size < wr.heap.size; omega)]; exact H8.out) (by rw [Sha.size_arr32, Sha.len_blk _ _ HL.out]; kernel_rfl) (by rw [Sha.size_arr32, Sha.size_arr32, HL.out, Sha.len_blk _ _ HL.out]) (Sha.one_arr32 _) ?_))
                  go_roundw
                  case rel =>
                    refine ⟨k + 1, by omega, by go_num, Own.setRowOther (Own.below (Own.drew h2) hb1 (fun x hx => by cases hx; exact hgw)) _ _ (fun x hx => by cases hx; show g ≠ wq.heap.size; omega), below_setRow ((hb2.drew).trans (hb1.mono (by show w.heap.size ≤ wr.heap.size; omega))) (by omega) _, ?_, ?_⟩
                    · have := hb1.size
                      simp at this ⊢
                      omega
                    · rw [Sha.runTo_succ]
                      exact setRow_heap _ _ _ _ _ _ (by rw [hb1.block _ (by show wq.heap.size < wr.heap.size; omega)]; exact H8.out)
                  case measure => simp [intOf]; omega
                · have hkN : k = P.length / 64 := by omega
                  rw [hkN, show 64 * ((P.length / 64 : Nat) : Int) = (P.length : Int) by have := HD.out; omega]
                  rw [hkN] at h8
                  have hl := Sha.len_runTo P Sha.first Sha.len_first (P.length / 64)
                  generalize hFe : Sha.runTo P Sha.first (P.length / 64) = hF at *
                  have HFE := Lib.hid hFe; clear hFe
                  clear hlt hkN h2
                  obtain ⟨wu, rfl⟩ : ∃ wu : World, wu = wr := ⟨_, rfl⟩
                  have H8 := Lib.hid h8; clear h8
                  have HL := Lib.hid hl; clear hl
                  go_wp2_with (first
                    | (refine wpList_mk bt rfl _ _ rfl 32 .i64 .i64 32 rfl rfl rfl (by omega) ?_; intro w3 h3 hs3 hb3))
                  have HS3 := Lib.hid hs3; clear hs3
                  go_loopw [10] (fun i wr => ∃ k : Nat, k ≤ 32 ∧ i = .int .i64 k ∧ OwnB wr wu.heap.size (some ⟨wu.heap.size, 0, none⟩) 32 (Sha.outTo hF k ++ List.replicate (32 - k) 0) ∧ Below wu.heap.size wu wr)
                    (fun i _ => (32 - intOf i).toNat)
                  case atStart => exact ⟨0, by omega, rfl, by rw [Sha.outTo_0]; exact h3, hb3⟩
                  case round =>
                    clear h3 hb3 HS3
                    obtain ⟨k, hk, rfl, h3, hb3⟩ := hrel
                    have hlo : (Sha.outTo hF k ++ List.replicate (32 - k) 0).length = 32 := by simp [Sha.len_outTo]; omega
                    by_cases hlt : k < 32
                    · have f1 := h3.free (j := k) (by omega)
                      have c1 := h3.cell (j := k) (by omega)
                      have h8' : wr.heap[wq.heap.size]? = some (.cells (Sha.arr32 hF) 81 (0, 0)) := by rw [hb3.block _ (by omega)]; exact H8.out
                      have c2 := Sha.cell32 h8' (j := k / 4) (by rw [HL.out]; omega)
                      have H8' := Lib.hid h8'; clear h8'
                      have HLO := Lib.hid hlo; clear hlo
                      have q5 : (k : Int) < 32 := by omega
                      have q6 : 0 ≤ 24 - (k : Int) % 4 * 8 := by omega
                      rw [Nat.zero_add] at f1 c1
                      go_wp2_with fail
                      go_roundw
                      case rel =>
                        refine ⟨k + 1, by omega, by go_num, ?_, hb3.setCell (by simp) _⟩
                        have := h3.set k (U.c32_8 (U.r32 (Sha.g hF (k / 4)) (24 - k % 4 * 8))) (by rw [HLO.out]; exact hlt)
                        have e := Sha.set_fill (Sha.outTo hF k) (32 - k) 0 (U.c32_8 (U.r32 (Sha.g hF (k / 4)) (24 - k % 4 * 8))) (by omega)
                        rw [Sha.len_outTo] at e
                        rw [Nat.zero_add, e, U.byte32] at this
                        rw [Sha.outTo_succ, show 32 - (k + 1) = 32 - k - 1 by omega]
                        exact this
                      case measure => simp [intOf]; omega
                    · have hk32 : k = 32 := by omega
                      subst hk32
                      have hlo2 : Sha.outTo hF 32 ++ List.replicate (32 - 32) 0 = Sha.outTo hF 32 := by simp
                      rw [hlo2] at h3
                      clear hlo hlo2 hlt
                      go_wp2_with (first
                        | (refine wpList_bs bt rfl _ rfl wu.heap.size _ 32 32 (Sha.outTo hF 32) rfl (by rw [Sha.len_outTo]) h3 ?_))
                      go_ret
                      exact ⟨by rw [Sha.sha_eq, HPE.out, HFE.out]; rfl, hb2.trans (hb3.mono hb2.size)⟩
end Go.Proofs.YtdnigbbfiklaoaaDoor
