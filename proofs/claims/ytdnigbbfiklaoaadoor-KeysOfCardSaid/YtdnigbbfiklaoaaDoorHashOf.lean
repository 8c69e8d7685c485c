/- The program's SHA-256 of a string. -/
import Derived.Test.YtdnigbbfiklaoaaDoorHashSum
namespace Go.Proofs.YtdnigbbfiklaoaaDoor
open Go.RowKit
section
variable {P : Program} {tb te ts : TypeId} {i : TypeInfo} (bt : BT P tb te ts i) {ops : Array Oper} {rest : List Oper} {o : Oper} {a : Act} {w : World} {Q : Exit → Act → World → Prop}
include bt
/-- Some bytes more, of a literal. -/
theorem wpList_pushL (hgd : o.guard = none) (s x : Operand) (ho : o.op = .call { callee := .builtin .append, args := #[s, x], argTypes := #[tb, tb] })
    (w0 : World) (cs : Array Value) (tz : TypeId) (hw : w = w0.alloc (.cells cs tz)) (ns : List UInt8) (hz : cs = (bts ns).toArray)
    (base : Nat) (p : Option Addr) (cap n m : Nat) (l : List UInt8) (hs : a.eval s = .slice p n cap) (hn : n = l.length) (hm : m = ns.length) (hown : OwnB w0 base p cap l)
    (g k : Nat) (hx : a.eval x = .slice (some ⟨g, 0, none⟩) m k) (hg : g = w0.heap.size) (hbytes : l.length + ns.length ≤ 140737488355328) (hbase : base ≤ w0.heap.size)
    (h : ∀ p' cap' w', OwnB w' base p' cap' (l ++ ns) → w.grownBy w' (p.map (·.block)) → wpList P ops Q rest (a.put o.dst (.slice p' (n + m) cap')) w') : wpList P ops Q (o :: rest) a w := by
  subst hw; subst hz; subst hg
  refine wpList_bytes_append bt hgd s x ho base p cap n l hs hn (Own.alloc hown _) ⟨w0.heap.size, 0, none⟩ k m ns hx hm (fun j hj => ?_) hbytes (by simp; omega) h
  rw [addr_add, World.cell?_alloc_new, Nat.zero_add, List.getElem?_toArray, get_bts hj]
end
theorem r32_zero (x : UInt32) : U.r32 x 0 = x := by
  apply UInt32.toNat_inj.1; rw [U.toNat_r32]; simp
theorem outTo_4 (h : List UInt32) (k : Nat) : Sha.outTo h (4 * (k + 1)) = Sha.outTo h (4 * k) ++ [U.c32_8 (U.r32 (Sha.g h k) 24), U.c32_8 (U.r32 (Sha.g h k) 16), U.c32_8 (U.r32 (Sha.g h k) 8), U.c32_8 (Sha.g h k)] := by
  rw [show 4 * (k + 1) = 4 * k + 1 + 1 + 1 + 1 by omega, Sha.outTo_succ, Sha.outTo_succ, Sha.outTo_succ, Sha.outTo_succ]
  rw [show (4 * k + 1 + 1 + 1) / 4 = k by omega, show (4 * k + 1 + 1) / 4 = k by omega, show (4 * k + 1) / 4 = k by omega, show 4 * k / 4 = k by omega,
    show 24 - (4 * k + 1 + 1 + 1) % 4 * 8 = 0 by omega, show 24 - (4 * k + 1 + 1) % 4 * 8 = 8 by omega, show 24 - (4 * k + 1) % 4 * 8 = 16 by omega, show 24 - 4 * k % 4 * 8 = 24 by omega, r32_zero]
  simp
set_option maxHeartbeats 4000000 in
set_option maxRecDepth 100000 in
theorem hSum_any {w : World} {B base : Nat} (A : List UInt8) (H : HashOf w base B A) (hA : A.length ≤ 1000000) (hkon : KonAt w) :
    Calls Tryd.prog 42 #[.pointer (some ⟨B, 0, none⟩)] w fun e w' => e = .returned (.string ⟨(Sha.sha A).toArray⟩) ∧ Below w.heap.size w w' := by
  obtain ⟨i, bt⟩ := btinfo
  have hkb := hkon.lt
  have hBl := Buf.lt H
  obtain ⟨r, hr⟩ : ∃ r, r = A.length % 64 := ⟨_, rfl⟩
  have hr64 : r < 64 := by omega
  have hcl : (A.drop (64 * (A.length / 64))).length = r := by rw [List.length_drop]; omega
  have hnz : Sha.nz A.length = (119 - r) % 64 := by unfold Sha.nz; rw [hr]
  have hnl := Sha.nz_lt A.length
  have HCL := Lib.hid hcl; clear hcl
  have HNZ := Lib.hid hnz; clear hnz
  have HK := Lib.hid hkon; clear hkon
  have HR := Lib.hid hr; clear hr
  go_enter Tryd.func42, Tryd.ntmps42
  go_wp2_with fail
  refine (hCopy_any H (by rw [HCL.out]; have := HR.out; omega)).mono ?_
  rintro e w1 ⟨rfl, hC1, hb1⟩
  have hC1' : HashOf w1 w.heap.size w.heap.size A := Buf.mono hC1 (by rw [HCL.out]; have := HR.out; omega) (Nat.le_refl _)
  have hH1 : HashOf w1 base B A := Buf.below H hb1
  go_wp2_with fail
  refine (bufLen_any hH1 (by omega)).mono ?_
  rintro e w2 ⟨rfl, k2, rfl⟩
  rw [HCL.out]
  have hC2 : HashOf (w1.drewN k2) w.heap.size w.heap.size A := Buf.drewN hC1' k2
  have hH2 : HashOf (w1.drewN k2) base B A := Buf.drewN hH1 k2
  have hb2 : Below w.heap.size w (w1.drewN k2) := below_dn hb1 k2
  obtain ⟨w2, hw2⟩ : ∃ w2, w2 = w1.drewN k2 := ⟨_, rfl⟩
  rw [← hw2] at hC2 hH2 hb2 ⊢
  clear hw2 hC1 hC1' hH1 H
  have q1 : IntKind.i64.wrap (119 - (r : Int)) = 119 - (r : Int) := IntWalk.i64_in _ (by omega)
  have q2 : (119 - (r : Int)) % 64 = ((Sha.nz A.length : Nat) : Int) := by rw [HNZ.out]; omega
  go_wp2_with (first
    | (refine wpList_mk bt rfl _ _ rfl (Sha.nz A.length) .i64 .i64 _ rfl rfl q2 (by omega) ?_; intro w3 h3 hs3 hb3; have HS3 := Lib.hid hs3; clear hs3)
    | (refine wpList_bs bt rfl _ rfl w2.heap.size _ _ _ (List.replicate (Sha.nz A.length) 0) rfl (by simp) h3 ?_))
  have hC3 : HashOf w3 w.heap.size w.heap.size A := Buf.below hC2 hb3
  have hH3 : HashOf w3 base B A := Buf.below hH2 hb3
  have hb03 : Below w.heap.size w w3 := hb2.trans (hb3.mono hb2.size)
  have hk3 : KonAt w3 := HK.out.of (hb03.block _ hkb)
  rw [show (#[128] ++ Array.replicate (Sha.nz A.length) 0 : Array UInt8) = ([128] ++ List.replicate (Sha.nz A.length) 0 : List UInt8).toArray from by simp]
  refine (hAdd_any A ([128] ++ List.replicate (Sha.nz A.length) 0) hC3 (by simp; omega) (Nat.le_refl _) hk3 hkb).mono ?_
  rintro e w4 ⟨rfl, hC4, hb4⟩
  have hb04 : Below w.heap.size w w4 := hb03.trans hb4
  have c11 : w4.cell? ⟨B, 11, none⟩ = some (.int .u64 (A.length : Int)) := by
    rw [hb4.cell (p := ⟨B, 11, none⟩) hBl]; exact (Buf.cells hH3).1
  have hs04 := hb04.size
  clear hC3 hH3 hC2 hH2 hb2 hb3 h3 hb03 hk3 q1 q2 HS3 hb1 hb4
  have q0 : IntKind.u64.wrap (8 * (A.length : Int)) = 8 * (A.length : Int) := by rw [U.wrap_u64]; omega
  go_wp2_with fail
  go_loopw [5, 24] (fun _ i wr => ∃ k : Nat, k ≤ 8 ∧ i = .int .i64 k ∧ Below w4.heap.size w4 wr ∧ wr.heap.size = w4.heap.size + 1 ∧ wr.heap[w4.heap.size]? = some (.cells (bts (Sha.lenB A.length k ++ List.replicate (8 - k) 0)).toArray 100 (0, 0)))
    (fun _ i _ => (8 - intOf i).toNat)
  case atStart =>
    refine ⟨0, by omega, rfl, (Below.refl _ _).alloc (Nat.le_refl _) _, by simp, ?_⟩
    rw [heap_eq _ _ _ rfl, Sha.lenB_0]; rfl
  case round =>
    obtain ⟨k, hk, rfl, hb5, hs5, h5⟩ := hrel
    have HS5 := Lib.hid hs5; clear hs5
    have hlo : (Sha.lenB A.length k ++ List.replicate (8 - k) 0).length = 8 := by simp [Sha.len_lenB]; omega
    by_cases hlt : k < 8
    · have d11 : wr.cell? ⟨B, 11, none⟩ = some (.int .u64 (A.length : Int)) := by rw [hb5.cell (p := ⟨B, 11, none⟩) (by show B < _; omega)]; exact c11
      have e1 := bts_cell h5 (j := k) (by omega)
      have f1 := bts_free h5 k
      have H5 := Lib.hid h5; clear h5
      have HLO := Lib.hid hlo; clear hlo
      have q5 : (k : Int) < 8 := by omega
      have q6 : IntKind.i64.wrap (8 * (k : Int)) = 8 * (k : Int) := IntWalk.i64_in _ (by omega)
      have q7 : IntKind.i64.wrap (56 - 8 * (k : Int)) = 56 - 8 * (k : Int) := IntWalk.i64_in _ (by omega)
      have q8 : IntKind.u64.wrap (56 - 8 * (k : Int)) = 56 - 8 * (k : Int) := by rw [U.wrap_u64]; omega
      have q9 : 8 * (k : Int) ≤ 56 := by omega
      have q10 : (56 - 8 * (k : Int)).toNat = 56 - 8 * k := by omega
      go_wp2_with fail
      go_roundw
      case rel =>
        refine ⟨k + 1, by omega, by go_num, hb5.setCell (by simp) _, by simp [HS5.out], ?_⟩
        have e := Sha.set_fill (Sha.lenB A.length k) (8 - k) 0 (U.c64_8 (U.r64 (U.m64 8 (UInt64.ofNat A.length)) (56 - 8 * k))) (by omega)
        rw [Sha.len_lenB] at e
        have := bts_setA H5.out k (U.c64_8 (U.r64 (U.m64 8 (UInt64.ofNat A.length)) (56 - 8 * k)))
        rw [e, Sha.lenB_byte _ _ hA] at this
        rw [Sha.lenB_succ, show 8 - (k + 1) = 8 - k - 1 by omega]
        exact this
      case measure => simp [intOf]; omega
    · have hk8 : k = 8 := by omega
      subst hk8
      rw [show ((8 : Nat) : Int) = 8 from rfl]
      have hl8 : Sha.lenB A.length 8 ++ List.replicate (8 - 8) 0 = Sha.lenB A.length 8 := by simp
      rw [hl8] at h5
      clear hl8 hlo hlt q0
      obtain ⟨w5, rfl⟩ : ∃ w5 : World, w5 = wr := ⟨_, rfl⟩
      have ho5 : OwnB w5 w4.heap.size (some ⟨w4.heap.size, 0, none⟩) 8 (Sha.lenB A.length 8) := by
        unfold OwnB
        rw [Sha.len_lenB]
        exact Own.laid (fr := (0, 0)) h5 (.inr (Nat.le_refl _)) (Nat.le_refl _) (by simp [len_bts, Sha.len_lenB]) (Nat.le_refl _) (by simp only [maxLen]; omega) (by simp [len_bts, Sha.len_lenB]) (fun j hj => by simp)
      have hC5 : HashOf w5 w.heap.size w.heap.size (A ++ ([128] ++ List.replicate (Sha.nz A.length) 0)) := Buf.below hC4 hb5
      have hb05 : Below w.heap.size w w5 := hb04.trans (hb5.mono hs04)
      have hk5 : KonAt w5 := HK.out.of (hb05.block _ hkb)
      go_wp2_with (first
        | (refine wpList_bs bt rfl _ rfl w4.heap.size _ 8 8 (Sha.lenB A.length 8) rfl (by rw [Sha.len_lenB]) ho5 ?_))
      refine (hAdd_any (A ++ ([128] ++ List.replicate (Sha.nz A.length) 0)) (Sha.lenB A.length 8) hC5 (by simp [Sha.len_lenB]; omega) (Nat.le_refl _) hk5 hkb).mono ?_
      rintro e w6 ⟨rfl, hC6, hb6⟩
      have hP : A ++ ([128] ++ List.replicate (Sha.nz A.length) 0) ++ Sha.lenB A.length 8 = Sha.pad A := by unfold Sha.pad; simp
      rw [hP] at hC6
      have hb06 : Below w.heap.size w w6 := hb05.trans hb6
      have hrg := Buf.range hC6
      have hl6 := Buf.len hC6
      obtain ⟨hF, hFe⟩ : ∃ hF, hF = Sha.runTo (Sha.pad A) Sha.first ((Sha.pad A).length / 64) := ⟨_, rfl⟩
      rw [← hFe] at hrg hl6
      have HFE := Lib.hid hFe; clear hFe
      have h8 : (Sha.arr32 hF).toList.length = 8 := by simp [Sha.size_arr32, hl6]
      have HRG := Lib.hid hrg; clear hrg
      have L8 := Lib.hid h8; clear h8
      have HL6 := Lib.hid hl6; clear hl6
      clear hC5 hk5 ho5 h5 hb5 hC4 HS5 c11 hP hb6 hb04 hs04 hb05 hC6
      go_wp2_with (first
        | (refine wpList_load_mid rfl 81 _ rfl w.heap.size 0 rfl (Sha.arr32 hF).toList _ HRG.out Tryd.underlying81 rfl (by rw [L8.out]; kernel_rfl) ?_))
      go_loopw [6, 8, 49] (fun o _ i wr => ∃ (k : Nat) (p : Option Addr) (cap : Nat), k ≤ 8 ∧ i = .int .i64 k ∧ o = .slice p (4 * k) cap ∧ OwnB wr w6.heap.size p cap (Sha.outTo hF (4 * k)) ∧ Below w6.heap.size w6 wr)
        (fun _ _ i _ => (8 - intOf i).toNat)
      case atStart => exact ⟨0, none, 0, by omega, rfl, rfl, by rw [Nat.mul_zero, Sha.outTo_0]; exact OwnB.nil _ _, Below.refl _ _⟩
      case round =>
        obtain ⟨k, p, cap, hk, rfl, rfl, ho, hb7⟩ := hrel
        by_cases hlt : k < 8
        · have q5 : (k : Int) < 8 := by omega
          go_wp2_with (first
            | (refine wpList_index_agg rfl 81 _ _ rfl 80 8 .u32 (Sha.arr32 hF) .i64 k (.int .u32 ((Sha.g hF k).toNat : Int)) rfl rfl Tryd.underlying81 (by kernel_rfl) Tryd.underlying80 hlt (Sha.get_arr32 (by rw [HL6.out]; exact hlt)) ?_)
            | (refine wpList_pushL bt rfl _ _ rfl _ _ _ rfl [U.c32_8 (U.r32 (Sha.g hF k) 24), U.c32_8 (U.r32 (Sha.g hF k) 16), U.c32_8 (U.r32 (Sha.g hF k) 8), U.c32_8 (Sha.g hF k)] (by simp [bts]) w6.heap.size p cap _ 4 _ rfl (by rw [Sha.len_outTo]) rfl ho _ _ rfl rfl (by simp [Sha.len_outTo]; omega) hb7.size ?_; intro p3 cap3 w8 h8 hg8))
          go_roundw
          case rel =>
            refine ⟨k + 1, p3, cap3, by omega, by go_num, by rw [Nat.mul_succ], ?_, Below.grown (hb7.alloc hb7.size _) hg8 (by have := hb7.size; simp; omega) ho.base⟩
            rw [outTo_4]; exact h8
          case measure => simp [intOf]; omega
        · have hk8 : k = 8 := by omega
          subst hk8
          go_wp2_with (first
            | (refine wpList_bs bt rfl _ rfl w6.heap.size _ _ _ (Sha.outTo hF 32) rfl (by rw [Sha.len_outTo]) ho ?_))
          go_ret
          exact ⟨by rw [Sha.sha_eq, HFE.out]; rfl, hb06.trans (hb7.mono hb06.size)⟩
set_option maxHeartbeats 1000000 in
theorem pOf_any (l : List UInt8) (w : World) (hl : l.length ≤ 1000000) (hkon : KonAt w) :
    Calls Tryd.prog 29 #[.string ⟨l.toArray⟩] w fun e w' => e = .returned (.string ⟨(Sha.sha l).toArray⟩) ∧ Below w.heap.size w w' := by
  have hkb := hkon.lt
  have HK := Lib.hid hkon; clear hkon
  go_enter Tryd.func29, Tryd.ntmps29
  go_wp2_with fail
  refine (hNew_any w).mono ?_
  rintro e w1 ⟨rfl, h1, hb1, hs1⟩
  have HS1 := Lib.hid hs1; clear hs1
  go_wp2_with fail
  refine (hAdd_any [] l h1 (by simp; omega) (Nat.le_refl _) (HK.out.below hb1) hkb).mono ?_
  rintro e w2 ⟨rfl, h2, hb2⟩
  rw [List.nil_append] at h2
  have hb02 := hb1.trans hb2
  go_wp2_with fail
  refine (hSum_any l h2 hl (HK.out.below hb02)).mono ?_
  rintro e w3 ⟨rfl, hb3⟩
  go_wp2_with fail
  go_ret
  exact ⟨rfl, hb02.trans (hb3.mono hb02.size)⟩
end Go.Proofs.YtdnigbbfiklaoaaDoor
