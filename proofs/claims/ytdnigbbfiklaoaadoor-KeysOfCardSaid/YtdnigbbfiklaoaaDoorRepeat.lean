/- bytes.Repeat of one byte, 64 times. -/
import Derived.Test.YtdnigbbfiklaoaaDoorHashOf
import Derived.Lib.MakeNoZero
import Derived.Laws.Externs
import Derived.Deep.RegionHeld3
namespace Go.Proofs.YtdnigbbfiklaoaaDoor
open Go.RowKit
set_option maxHeartbeats 1000000 in
theorem mul_64 (w : World) : Calls Tryd.prog 47 #[.int .u64 1, .int .u64 64] w fun e w' => e = .returned (.tuple #[.int .u64 0, .int .u64 64]) ∧ w' = w := by
  go_enter Tryd.func47, Tryd.ntmps47
  go_wp2
  go_ret2
  exact ⟨rfl, rfl⟩
set_option maxHeartbeats 1000000 in
theorem mul_any (w : World) : Calls Tryd.prog 33 #[.int .u64 1, .int .u64 64] w fun e w' => e = .returned (.tuple #[.int .u64 0, .int .u64 64]) ∧ w' = w := by
  go_enter Tryd.func33, Tryd.ntmps33
  go_wp2_with (go_at_call 47; refine (mul_64 _).mono ?_; rintro e w' ⟨rfl, rfl⟩)
  go_ret2
  exact ⟨rfl, rfl⟩
section
variable {P : Program} {tb te ts : TypeId} {i : TypeInfo} (bt : BT P tb te ts i) {ops : Array Oper} {o : Oper} {a : Act} {w : World} {Q : Exit → Act → World → Prop}
include bt
/-- 'copy(d, s)', d the place behind the bytes l, s a slice of bytes, within a region that draws its order. -/
theorem step_copyB {K : Act → World → Prop} {E : Prop} (hgd : o.guard = none) (x y : Operand) (ho : o.op = .call { callee := .builtin .copy, args := #[x, y], argTypes := #[tb, tb] })
    (base : Nat) (p : Option Addr) (cap : Nat) (l : List UInt8) (hown : OwnB w base p cap l) (d : Option Addr) (dn dc : Nat) (hx : a.eval x = .slice d dn dc) (hd : d = tailP p l.length cap)
    (base' : Nat) (q : Option Addr) (scap n : Nat) (ns : List UInt8) (hy : a.eval y = .slice q n scap) (hn : n = ns.length) (hsrc : OwnB w base' q scap ns) (hle : n ≤ dn) (hfit : l.length + n ≤ cap)
    (h : ∀ w', OwnB w' base p cap (l ++ ns) → w.grownBy w' (p.map (·.block)) → w'.heap.size = w.heap.size → K (a.put o.dst (.int .i64 n)) w') : if Region.wanted o (yielded ops a.tmps) = true then Oper.wp P o a w K Q else E := by
  have hwant : Region.wanted o (yielded ops a.tmps) = true := by simp [Region.wanted, hgd]
  rw [if_pos hwant]
  subst hn
  have hsz1 : (P.info? te).map (·.size) = some 1 := by rw [bt.hi]; simp [bt.h1]
  have hmin : Nat.min ns.length dn = ns.length := Nat.min_eq_left hle
  by_cases h0 : ns.length = 0
  · have e : ns = [] := List.eq_nil_of_length_eq_zero h0
    subst e
    have hr := run_copy_none (P := P) w tb tb o.type te d q dn dc 0 scap bt.ht hsz1 (by simp)
    unfold Oper.wp execOp
    simp only [ho, resolve, invoke, builtin, Sem.run_bind, Sem.run_pure, Result.andThen_ok, List.map_toArray, List.map_cons, List.map_nil, hx, hy, List.length_nil, hr]
    exact (h w (by simpa using hown) ⟨rfl, rfl, rfl, Nat.le_refl _, fun _ _ _ => rfl⟩ rfl)
  · obtain ⟨sg, so, rfl, _⟩ := hsrc.isAt (by omega)
    rcases hown.shape with ⟨rfl, rfl, rfl⟩ | ⟨g, off, rfl, hb⟩
    · simp only [List.length_nil] at hfit; omega
    · rw [tailP_at _ _ _ _ (by omega)] at hd
      subst hd
      obtain ⟨_, _, _, hr⟩ := hown.row
      have hcp := run_copy_cells (P := P) w tb tb o.type te g (off + l.length) dn dc ⟨sg, so, none⟩ ns.length scap (bts ns) bt.ht hsz1 (by rw [len_bts]; exact hmin.symm)
        (fun j v hv => by
          have hj : j < ns.length := by rw [← len_bts]; exact (List.getElem?_eq_some_iff.1 hv).1
          rw [addr_add, hsrc.cell hj, ← hv, get_bts hj])
        (fun j hj => by rw [len_bts] at hj; rw [Nat.add_assoc]; exact hr.there _ (by omega)) (fun j hj => by rw [len_bts] at hj; rw [Nat.add_assoc]; exact hr.free _ (by omega)) (one_bts _)
      rw [len_bts] at hcp
      unfold Oper.wp execOp
      simp only [ho, resolve, invoke, builtin, Sem.run_bind, Sem.run_pure, Result.andThen_ok, List.map_toArray, List.map_cons, List.map_nil, hx, hy, hcp]
      exact (h _ (hown.extend ns hfit) (setB_grown ..) (sC_size ..))
end
set_option maxHeartbeats 4000000 in
set_option maxRecDepth 100000 in
theorem repeat_any (c : UInt8) (base2 : Nat) (q : Option Addr) (sc : Nat) (w : World) (hb : OwnB w base2 q sc [c]) :
    Calls Tryd.prog 31 #[.slice q 1 sc, .int .i64 64] w fun e w' => e = .returned (.slice (some ⟨w.heap.size, 0, none⟩) 64 64) ∧ OwnB w' w.heap.size (some ⟨w.heap.size, 0, none⟩) 64 (List.replicate 64 c) ∧ Below w.heap.size w w' := by
  obtain ⟨i, bt⟩ := btinfo
  obtain ⟨cs, hrunM, hle, _⟩ := Lib.run_makeNoZero (P := Tryd.prog) w #[3] 41 5 Tryd.underlying41 64 (by omega)
  have hcall : (callFunc 43 #[.int .i64 64]).run Tryd.prog w = .ok (.value (.slice (some ⟨w.heap.size, 0, none⟩) 64 cs.size)) ((w.alloc (.cells cs 5)).drewN 2) := by
    rw [run_callFunc_extern Tryd.func43 (by kernel_rfl) (by kernel_rfl) (by kernel_rfl) (e := Extern.BytealgMakeNoZero.makeNoZero #[3] #[41]) (by kernel_rfl)]
    rw [show (64 : Int) = ((64 : Nat) : Int) from rfl, hrunM]
    rfl
  clear hrunM
  have o1 : (64 : Int) ≤ (cs.size : Int) := by omega
  have hb1 : Below w.heap.size w ((w.alloc (.cells cs 5)).drewN 2) := below_dn ((Below.refl _ _).alloc (Nat.le_refl _) _) 2
  have hn1 : OwnB ((w.alloc (.cells cs 5)).drewN 2) w.heap.size (some ⟨w.heap.size, 0, none⟩) 64 [] :=
    Own.laid (fr := (0, 0)) (heap_alloc_last w _) (.inr (Nat.le_refl _)) (Nat.le_refl _) (by simp [bts]) (Nat.zero_le _) (by simp only [maxLen]; omega) (by omega) (fun j hj => by simp [bts] at hj)
  have hs1 : OwnB ((w.alloc (.cells cs 5)).drewN 2) base2 q sc [c] := Own.frame hb (fun g _ hl => hb1.block g hl)
  go_enter Tryd.func31, Tryd.ntmps31
  go_wp2_with (first
    | (go_at_call 33; refine (mul_any _).mono ?_; rintro e w' ⟨rfl, hw'⟩; have hw' := hw'.symm; subst hw')
    | (refine wpList_copyB bt rfl _ _ rfl w.heap.size _ 64 [] hn1 _ 64 64 rfl (by simp [tailP_zero]) base2 q sc 1 [c] rfl rfl hs1 (by decide) (by decide) ?_; intro w3 h3 hg3 hs3))
  have hb3 : Below w.heap.size w w3 := hb1.grown hg3 hb1.size (fun x hx => by cases hx; exact Nat.le_refl _)
  rw [List.nil_append] at h3
  clear hs3 hg3 hs1 hn1 hb1 hcall o1
  go_loopw [10, 11] (fun v _ wr => ∃ n : Nat, ((n = 1 ∧ v = .int .i64 1) ∨ (n = 2 ∧ v = .int .i64 2) ∨ (n = 4 ∧ v = .int .i64 4) ∨ (n = 8 ∧ v = .int .i64 8) ∨ (n = 16 ∧ v = .int .i64 16) ∨ (n = 32 ∧ v = .int .i64 32) ∨ (n = 64 ∧ v = .int .i64 64)) ∧ OwnB wr w.heap.size (some ⟨w.heap.size, 0, none⟩) 64 (List.replicate n c) ∧ Below w.heap.size w wr)
    (fun v _ _ => (64 - intOf v).toNat)
  case atStart => exact ⟨1, .inl ⟨rfl, rfl⟩, h3, hb3⟩
  case round =>
    clear h3 hb3
    obtain ⟨n, hn, h3, hb3⟩ := hrel
    rcases hn with ⟨rfl, rfl⟩ | ⟨rfl, rfl⟩ | ⟨rfl, rfl⟩ | ⟨rfl, rfl⟩ | ⟨rfl, rfl⟩ | ⟨rfl, rfl⟩ | ⟨rfl, rfl⟩
    · go_wp2_with fail
      rw [show (min (1 : Int) 64) = 1 from rfl]
      go_region_held3 (fun W => OwnB W w.heap.size (some ⟨w.heap.size, 0, none⟩) 64 (List.replicate 1 c)) (first | exact Own.drew h3 | exact (by simpa using OwnB.take h4 1))
        (first
          | (refine step_copyB bt rfl _ _ rfl w.heap.size (some ⟨w.heap.size, 0, none⟩) 64 (List.replicate 1 c) (Own.drew h3) _ 63 63 rfl (by simp [tailP, addr_add]) w.heap.size _ 64 1 (List.replicate 1 c) rfl (by simp) (Own.drew h3) (by decide) (by simp) ?_; intro w4 h4 hg4 hs4))
      rw [List.replicate_append_replicate] at h4
      have hb4 : Below w.heap.size w w4 := Below.grown hb3.drew hg4 hb3.size (fun x hx => by cases hx; exact Nat.le_refl _)
      clear hs4 hg4
      go_wp2_with fail
      go_roundw
      case rel => exact ⟨2, .inr (.inl ⟨rfl, rfl⟩), h4, hb4⟩
      case measure => simp [intOf]; decide
    · go_wp2_with fail
      rw [show (min (2 : Int) 64) = 2 from rfl]
      go_region_held3 (fun W => OwnB W w.heap.size (some ⟨w.heap.size, 0, none⟩) 64 (List.replicate 2 c)) (first | exact Own.drew h3 | exact (by simpa using OwnB.take h4 2))
        (first
          | (refine step_copyB bt rfl _ _ rfl w.heap.size (some ⟨w.heap.size, 0, none⟩) 64 (List.replicate 2 c) (Own.drew h3) _ 62 62 rfl (by simp [tailP, addr_add]) w.heap.size _ 64 2 (List.replicate 2 c) rfl (by simp) (Own.drew h3) (by decide) (by simp) ?_; intro w4 h4 hg4 hs4))
      rw [List.replicate_append_replicate] at h4
      have hb4 : Below w.heap.size w w4 := Below.grown hb3.drew hg4 hb3.size (fun x hx => by cases hx; exact Nat.le_refl _)
      clear hs4 hg4
      go_wp2_with fail
      go_roundw
      case rel => exact ⟨4, .inr (.inr (.inl ⟨rfl, rfl⟩)), h4, hb4⟩
      case measure => simp [intOf]; decide
    · go_wp2_with fail
      rw [show (min (4 : Int) 64) = 4 from rfl]
      go_region_held3 (fun W => OwnB W w.heap.size (some ⟨w.heap.size, 0, none⟩) 64 (List.replicate 4 c)) (first | exact Own.drew h3 | exact (by simpa using OwnB.take h4 4))
        (first
          | (refine step_copyB bt rfl _ _ rfl w.heap.size (some ⟨w.heap.size, 0, none⟩) 64 (List.replicate 4 c) (Own.drew h3) _ 60 60 rfl (by simp [tailP, addr_add]) w.heap.size _ 64 4 (List.replicate 4 c) rfl (by simp) (Own.drew h3) (by decide) (by simp) ?_; intro w4 h4 hg4 hs4))
      rw [List.replicate_append_replicate] at h4
      have hb4 : Below w.heap.size w w4 := Below.grown hb3.drew hg4 hb3.size (fun x hx => by cases hx; exact Nat.le_refl _)
      clear hs4 hg4
      go_wp2_with fail
      go_roundw
      case rel => exact ⟨8, .inr (.inr (.inr (.inl ⟨rfl, rfl⟩))), h4, hb4⟩
      case measure => simp [intOf]; decide
    · go_wp2_with fail
      rw [show (min (8 : Int) 64) = 8 from rfl]
      go_region_held3 (fun W => OwnB W w.heap.size (some ⟨w.heap.size, 0, none⟩) 64 (List.replicate 8 c)) (first | exact Own.drew h3 | exact (by simpa using OwnB.take h4 8))
        (first
          | (refine step_copyB bt rfl _ _ rfl w.heap.size (some ⟨w.heap.size, 0, none⟩) 64 (List.replicate 8 c) (Own.drew h3) _ 56 56 rfl (by simp [tailP, addr_add]) w.heap.size _ 64 8 (List.replicate 8 c) rfl (by simp) (Own.drew h3) (by decide) (by simp) ?_; intro w4 h4 hg4 hs4))
      rw [List.replicate_append_replicate] at h4
      have hb4 : Below w.heap.size w w4 := Below.grown hb3.drew hg4 hb3.size (fun x hx => by cases hx; exact Nat.le_refl _)
      clear hs4 hg4
      go_wp2_with fail
      go_roundw
      case rel => exact ⟨16, .inr (.inr (.inr (.inr (.inl ⟨rfl, rfl⟩)))), h4, hb4⟩
      case measure => simp [intOf]; decide
    · go_wp2_with fail
      rw [show (min (16 : Int) 64) = 16 from rfl]
      go_region_held3 (fun W => OwnB W w.heap.size (some ⟨w.heap.size, 0, none⟩) 64 (List.replicate 16 c)) (first | exact Own.drew h3 | exact (by simpa using OwnB.take h4 16))
        (first
          | (refine step_copyB bt rfl _ _ rfl w.heap.size (some ⟨w.heap.size, 0, none⟩) 64 (List.replicate 16 c) (Own.drew h3) _ 48 48 rfl (by simp [tailP, addr_add]) w.heap.size _ 64 16 (List.replicate 16 c) rfl (by simp) (Own.drew h3) (by decide) (by simp) ?_; intro w4 h4 hg4 hs4))
      rw [List.replicate_append_replicate] at h4
      have hb4 : Below w.heap.size w w4 := Below.grown hb3.drew hg4 hb3.size (fun x hx => by cases hx; exact Nat.le_refl _)
      clear hs4 hg4
      go_wp2_with fail
      go_roundw
      case rel => exact ⟨32, .inr (.inr (.inr (.inr (.inr (.inl ⟨rfl, rfl⟩))))), h4, hb4⟩
      case measure => simp [intOf]; decide
    · go_wp2_with fail
      rw [show (min (32 : Int) 64) = 32 from rfl]
      go_region_held3 (fun W => OwnB W w.heap.size (some ⟨w.heap.size, 0, none⟩) 64 (List.replicate 32 c)) (first | exact Own.drew h3 | exact (by simpa using OwnB.take h4 32))
        (first
          | (refine step_copyB bt rfl _ _ rfl w.heap.size (some ⟨w.heap.size, 0, none⟩) 64 (List.replicate 32 c) (Own.drew h3) _ 32 32 rfl (by simp [tailP, addr_add]) w.heap.size _ 64 32 (List.replicate 32 c) rfl (by simp) (Own.drew h3) (by decide) (by simp) ?_; intro w4 h4 hg4 hs4))
      rw [List.replicate_append_replicate] at h4
      have hb4 : Below w.heap.size w w4 := Below.grown hb3.drew hg4 hb3.size (fun x hx => by cases hx; exact Nat.le_refl _)
      clear hs4 hg4
      go_wp2_with fail
      go_roundw
      case rel => exact ⟨64, .inr (.inr (.inr (.inr (.inr (.inr (⟨rfl, rfl⟩)))))), h4, hb4⟩
      case measure => simp [intOf]; decide
    · go_wp2_with fail
      go_ret
      exact ⟨rfl, h3, hb3⟩
end Go.Proofs.YtdnigbbfiklaoaaDoor
