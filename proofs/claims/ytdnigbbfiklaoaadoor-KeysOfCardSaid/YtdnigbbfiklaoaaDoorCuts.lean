/- Cuts of a slice of bytes that the call owns, and copies behind its bytes. -/
import Derived.Test.YtdnigbbfiklaoaaDoorOwn
import Derived.Lib.LazyBuf
import Derived.Lib.BufferWrite
import Derived.Lib.AppendZeros
namespace Go.Proofs.YtdnigbbfiklaoaaDoor
open Go.RowKit
/-- Where b[lo:] lies: at the end of the capacity it stays where b lies. -/
def tailP (p : Option Addr) (lo cap : Nat) : Option Addr := if cap = lo then p else p.map (·.add lo)
theorem tailP_block (p : Option Addr) (lo cap : Nat) : (tailP p lo cap).map (·.block) = p.map (·.block) := by
  unfold tailP
  split
  · rfl
  · cases p
    · rfl
    · rename_i a
      simp [Addr.add]; split <;> rfl
theorem tailP_at (g o lo cap : Nat) (h : lo < cap) : tailP (some ⟨g, o, none⟩) lo cap = some ⟨g, o + lo, none⟩ := by
  unfold tailP; rw [if_neg (by omega)]; simp [addr_add]
theorem tailP_zero (g o cap : Nat) : tailP (some ⟨g, o, none⟩) 0 cap = some ⟨g, o, none⟩ := by
  unfold tailP; split
  · rfl
  · simp [addr_add]
theorem OwnB.shape {w : World} {base cap : Nat} {p : Option Addr} {l : List UInt8} (h : OwnB w base p cap l) : (p = none ∧ cap = 0 ∧ l = []) ∨ ∃ g o, p = some ⟨g, o, none⟩ ∧ base ≤ g := by
  obtain ⟨h1, ⟨h2, h3⟩ | ⟨g', off', cap', e, hb, hn, hm, hr⟩⟩ := h
  · injection h2 with e1 e2 e3; exact .inl ⟨e1, e3, List.eq_nil_of_length_eq_zero h3⟩
  · cases e; exact .inr ⟨_, _, rfl, hb⟩
theorem OwnB.row {w : World} {base g o cap : Nat} {l : List UInt8} (h : OwnB w base (some ⟨g, o, none⟩) cap l) : base ≤ g ∧ l.length ≤ cap ∧ cap ≤ maxLen ∧ Row w g o cap 1 (bts l) := by
  obtain ⟨_, h2 | ⟨g', off', cap', e, hb, hn, hm, hr⟩⟩ := h
  · cases h2.1
  · cases e; exact ⟨hb, hn, hm, hr⟩
theorem OwnB.mk {w : World} {base g o cap : Nat} {l : List UInt8} (hb : base ≤ g) (hl : l.length ≤ cap) (hm : cap ≤ maxLen) (hr : Row w g o cap 1 (bts l)) : OwnB w base (some ⟨g, o, none⟩) cap l :=
  ⟨by simp [len_bts], .inr ⟨g, o, cap, rfl, hb, hl, hm, hr⟩⟩
theorem OwnB.take {w : World} {base cap : Nat} {p : Option Addr} {l : List UInt8} (h : OwnB w base p cap l) (k : Nat) : OwnB w base p cap (l.take k) := by
  rcases h.shape with ⟨rfl, rfl, rfl⟩ | ⟨g, o, rfl, hb⟩
  · simpa using OwnB.nil w base
  · obtain ⟨h1, h2, h3, h4⟩ := h.row
    refine OwnB.mk h1 (by rw [List.length_take]; omega) h3 ⟨fun j hj => ?_, h4.there, h4.free⟩
    rw [len_bts, List.length_take] at hj
    rw [h4.cells j (by rw [len_bts]; omega), get_bts (by omega), get_bts (by rw [List.length_take]; omega)]
    simp [List.getD, show j < k by omega]
theorem OwnB.tail {w : World} {base cap : Nat} {p : Option Addr} {l : List UInt8} (h : OwnB w base p cap l) (lo : Nat) (hlo : lo ≤ l.length) : OwnB w base (tailP p lo cap) (cap - lo) (l.drop lo) := by
  rcases h.shape with ⟨rfl, rfl, rfl⟩ | ⟨g, o, rfl, hb⟩
  · have : lo = 0 := by simpa using hlo
    subst this
    exact OwnB.nil w base
  · obtain ⟨h1, h2, h3, h4⟩ := h.row
    rcases Nat.lt_or_ge lo cap with hc | hc
    · rw [tailP_at g o lo cap hc]
      have := OwnB.cut h lo l.length hlo (Nat.le_refl _)
      rwa [List.take_of_length_le (by rw [List.length_drop]; exact Nat.le_refl _)] at this
    · have e1 : l.drop lo = [] := List.drop_eq_nil_of_le (by omega)
      have e2 : cap = lo := by omega
      rw [e1]
      unfold tailP
      rw [if_pos e2, show cap - lo = 0 by omega]
      exact OwnB.mk hb (Nat.le_refl _) (by simp only [maxLen]; omega) ⟨fun j hj => by simp [bts] at hj, fun j hj => by omega, fun j hj => by omega⟩
theorem OwnB.extend {w : World} {base g o cap : Nat} {l : List UInt8} (h : OwnB w base (some ⟨g, o, none⟩) cap l) (ns : List UInt8) (hn : l.length + ns.length ≤ cap) : OwnB (w.setCells g (o + l.length) (bts ns)) base (some ⟨g, o, none⟩) cap (l ++ ns) := by
  obtain ⟨h1, h2, h3, hr⟩ := h.row
  have hin : ∀ k, k < (bts ns).length → (w.cell? ⟨g, o + l.length + k, none⟩).isSome = true := fun k hk => by
    rw [len_bts] at hk; rw [Nat.add_assoc]; exact hr.there _ (by omega)
  refine OwnB.mk h1 (by rw [List.length_append]; exact hn) h3 ⟨fun j hj => ?_, fun j hj => ?_, fun j hj => ?_⟩
  · rw [len_bts, List.length_append] at hj
    by_cases hjn : j < l.length
    · rw [World.cell?_setCells_out g (bts ns) _ w ⟨g, o + j, none⟩ (fun _ _ => Or.inl (by show o + j < _; omega)), hr.cells j (by rw [len_bts]; exact hjn), bts_app, List.getElem?_append_left (by rw [len_bts]; exact hjn)]
    · have := World.cell?_setCells_in g (bts ns) (o + l.length) w hin (j - l.length) (by rw [len_bts]; omega)
      rw [show o + l.length + (j - l.length) = o + j by omega] at this
      rw [this, bts_app, List.getElem?_append_right (by rw [len_bts]; omega), len_bts l, List.getElem?_eq_getElem (by rw [len_bts]; omega)]
  · by_cases hi : l.length ≤ j ∧ j < l.length + ns.length
    · have := World.cell?_setCells_in g (bts ns) (o + l.length) w hin (j - l.length) (by rw [len_bts]; omega)
      rw [show o + l.length + (j - l.length) = o + j by omega] at this
      rw [this]; rfl
    · rw [World.cell?_setCells_out g (bts ns) _ w ⟨g, o + j, none⟩ (fun _ _ => by rw [len_bts]; show o + j < _ ∨ _ ≤ o + j; omega)]
      exact hr.there j hj
  · rw [World.frozen?_setCells]; exact hr.free j hj
section
variable {P : Program} {tb te ts : TypeId} {i : TypeInfo} (bt : BT P tb te ts i) {ops : Array Oper} {rest : List Oper} {o : Oper} {a : Act} {w : World} {Q : Exit → Act → World → Prop}
include bt
theorem BT.elem : P.underlying tb = some (.slice (P.elem tb)) := by
  have := bt.ht
  rw [this]; unfold Program.elem; simp [this]
theorem BT.size1 (w : World) : (sizeOf (P.elem tb)).run P w = .ok 1 w := by
  have h1 : P.elem tb = te := by unfold Program.elem; simp [bt.ht]
  simp [sizeOf, typeInfo, h1, bt.hi, bt.h1]
theorem run_from (p : Option Addr) (n cap lo : Nat) (k : IntKind) (hlo : lo ≤ n) (w : World) : (Instr.slice tb (.slice p n cap) (some (.int k (lo : Int))) none none).run P w = .ok (.slice (tailP p lo cap) (n - lo) (cap - lo)) w := by
  rw [run_slice_l w tb p n cap bt.elem k (lo : Int) (by omega) (by omega), bt.size1]
  simp [sliced, tailP]
theorem run_to (p : Option Addr) (n cap hi : Nat) (k : IntKind) (hp : ∀ a, p = some a → a.add 0 = a) (hhi : hi ≤ cap) (w : World) : (Instr.slice tb (.slice p n cap) none (some (.int k (hi : Int))) none).run P w = .ok (.slice p hi cap) w := by
  rw [run_slice_h w tb p n cap bt.elem k (hi : Int) (by omega) (by omega), bt.size1]
  simp only [sliced, Result.andThen_ok, Nat.sub_zero, Int.toNat_natCast]
  split
  · rfl
  · cases p with
    | none => rfl
    | some a => simp [hp a rfl]
theorem wpList_from (hgd : o.guard = none) (x y : Operand) (ho : o.op = .slice tb x (some y) none none) (p : Option Addr) (n cap lo : Nat) (k : IntKind) (c : Int) (hx : a.eval x = .slice p n cap) (hy : a.eval y = .int k c) (hc : c = lo) (hlo : lo ≤ n)
    (h : wpList P ops Q rest (a.put o.dst (.slice (tailP p lo cap) (n - lo) (cap - lo))) w) : wpList P ops Q (o :: rest) a w := by
  subst hc
  refine wpList_plain hgd fun K hK => ?_
  have hr := run_from bt p n cap lo k hlo w
  unfold Oper.wp execOp
  simp only [ho, hx, hy, Option.map_some, Option.map_none, run_sliceAt_slice w tb _ _ _ _ bt.elem, Sem.run_bind, Sem.run_pure, hr, Result.andThen_ok]
  exact hK _ _ h
theorem wpList_to (hgd : o.guard = none) (x y : Operand) (ho : o.op = .slice tb x none (some y) none) (p : Option Addr) (n cap hi : Nat) (k : IntKind) (c : Int) (hx : a.eval x = .slice p n cap) (hy : a.eval y = .int k c) (hc : c = hi)
    (hp : ∀ a, p = some a → a.add 0 = a) (hhi : hi ≤ cap) (h : wpList P ops Q rest (a.put o.dst (.slice p hi cap)) w) : wpList P ops Q (o :: rest) a w := by
  subst hc
  refine wpList_plain hgd fun K hK => ?_
  have hr := run_to bt p n cap hi k hp hhi w
  unfold Oper.wp execOp
  simp only [ho, hx, hy, Option.map_some, Option.map_none, run_sliceAt_slice w tb _ _ _ _ bt.elem, Sem.run_bind, Sem.run_pure, hr, Result.andThen_ok]
  exact hK _ _ h
omit bt in
theorem OwnB.add0 {w : World} {base cap : Nat} {p : Option Addr} {l : List UInt8} (h : OwnB w base p cap l) : ∀ a, p = some a → a.add 0 = a := by
  rcases h.shape with ⟨rfl, _, _⟩ | ⟨g, o, rfl, _⟩
  · intro a h; cases h
  · intro a h; cases h; rw [addr_add]; rfl
omit bt in
theorem setB_grown (g o : Nat) (vs : List Value) (w : World) : w.grownBy (w.setCells g o vs) (some g) :=
  ⟨sC_os .., sC_tape .., sC_output .., by rw [sC_size]; exact Nat.le_refl _, fun k _ hk => sC_block _ _ (fun e => hk (by rw [e])) _ _ _⟩
/-- 'copy(d, s)', d the place behind the bytes l, s a slice of bytes. -/
theorem wpList_copyB (hgd : o.guard = none) (x y : Operand) (ho : o.op = .call { callee := .builtin .copy, args := #[x, y], argTypes := #[tb, tb] })
    (base : Nat) (p : Option Addr) (cap : Nat) (l : List UInt8) (hown : OwnB w base p cap l) (d : Option Addr) (dn dc : Nat) (hx : a.eval x = .slice d dn dc) (hd : d = tailP p l.length cap)
    (base' : Nat) (q : Option Addr) (scap n : Nat) (ns : List UInt8) (hy : a.eval y = .slice q n scap) (hn : n = ns.length) (hsrc : OwnB w base' q scap ns) (hle : n ≤ dn) (hfit : l.length + n ≤ cap)
    (h : ∀ w', OwnB w' base p cap (l ++ ns) → w.grownBy w' (p.map (·.block)) → w'.heap.size = w.heap.size → wpList P ops Q rest (a.put o.dst (.int .i64 n)) w') : wpList P ops Q (o :: rest) a w := by
  subst hn
  have hsz1 : (P.info? te).map (·.size) = some 1 := by rw [bt.hi]; simp [bt.h1]
  have hmin : Nat.min ns.length dn = ns.length := Nat.min_eq_left hle
  by_cases h0 : ns.length = 0
  · have e : ns = [] := List.eq_nil_of_length_eq_zero h0
    subst e
    refine wpList_plain hgd fun K hK => ?_
    have hr := run_copy_none (P := P) w tb tb o.type te d q dn dc 0 scap bt.ht hsz1 (by simp)
    unfold Oper.wp execOp
    simp only [ho, resolve, invoke, builtin, Sem.run_bind, Sem.run_pure, Result.andThen_ok, List.map_toArray, List.map_cons, List.map_nil, hx, hy, List.length_nil, hr]
    exact hK _ _ (h w (by simpa using hown) ⟨rfl, rfl, rfl, Nat.le_refl _, fun _ _ _ => rfl⟩ rfl)
  · obtain ⟨sg, so, rfl, _⟩ := hsrc.isAt (by omega)
    rcases hown.shape with ⟨rfl, rfl, rfl⟩ | ⟨g, off, rfl, hb⟩
    · simp only [List.length_nil] at hfit; omega
    · rw [tailP_at _ _ _ _ (by omega)] at hd
      subst hd
      obtain ⟨_, _, _, hr⟩ := hown.row
      refine wpList_plain hgd fun K hK => ?_
      have hcp := run_copy_cells (P := P) w tb tb o.type te g (off + l.length) dn dc ⟨sg, so, none⟩ ns.length scap (bts ns) bt.ht hsz1 (by rw [len_bts]; exact hmin.symm)
        (fun j v hv => by
          have hj : j < ns.length := by rw [← len_bts]; exact (List.getElem?_eq_some_iff.1 hv).1
          rw [addr_add, hsrc.cell hj, ← hv, get_bts hj])
        (fun j hj => by rw [len_bts] at hj; rw [Nat.add_assoc]; exact hr.there _ (by omega)) (fun j hj => by rw [len_bts] at hj; rw [Nat.add_assoc]; exact hr.free _ (by omega)) (one_bts _)
      rw [len_bts] at hcp
      unfold Oper.wp execOp
      simp only [ho, resolve, invoke, builtin, Sem.run_bind, Sem.run_pure, Result.andThen_ok, List.map_toArray, List.map_cons, List.map_nil, hx, hy, hcp]
      exact hK _ _ (h _ (hown.extend ns hfit) (setB_grown ..) (sC_size ..))
/-- 'copy(d, s)', s a string. -/
theorem wpList_copyS (hgd : o.guard = none) (x y : Operand) (tst : TypeId) (ho : o.op = .call { callee := .builtin .copy, args := #[x, y], argTypes := #[tb, tst] })
    (base : Nat) (p : Option Addr) (cap : Nat) (l : List UInt8) (hown : OwnB w base p cap l) (d : Option Addr) (dn dc : Nat) (hx : a.eval x = .slice d dn dc) (hd : d = tailP p l.length cap)
    (ns : List UInt8) (hy : a.eval y = .string ⟨ns.toArray⟩) (hle : ns.length ≤ dn) (hfit : l.length + ns.length ≤ cap)
    (h : ∀ w', OwnB w' base p cap (l ++ ns) → w.grownBy w' (p.map (·.block)) → w'.heap.size = w.heap.size → wpList P ops Q rest (a.put o.dst (.int .i64 ns.length)) w') : wpList P ops Q (o :: rest) a w := by
  have hsz1 : (P.info? te).map (·.size) = some 1 := by rw [bt.hi]; simp [bt.h1]
  have hss : (⟨ns.toArray⟩ : ByteArray).size = ns.length := by simp [ByteArray.size]
  by_cases h0 : ns.length = 0
  · have e : ns = [] := List.eq_nil_of_length_eq_zero h0
    subst e
    refine wpList_plain hgd fun K hK => ?_
    have hr := Lib.run_copy_empty_string (P := P) w tb tst o.type te d dn dc ⟨#[]⟩ bt.ht (by rw [hsz1]; rfl) rfl
    unfold Oper.wp execOp
    simp only [ho, resolve, invoke, builtin, Sem.run_bind, Sem.run_pure, Result.andThen_ok, List.map_toArray, List.map_cons, List.map_nil, hx, hy, hr]
    exact hK _ _ (h w (by simpa using hown) ⟨rfl, rfl, rfl, Nat.le_refl _, fun _ _ _ => rfl⟩ rfl)
  · rcases hown.shape with ⟨rfl, rfl, rfl⟩ | ⟨g, off, rfl, hb⟩
    · simp only [List.length_nil] at hfit; omega
    · rw [tailP_at _ _ _ _ (by omega)] at hd
      subst hd
      obtain ⟨_, _, _, hr⟩ := hown.row
      refine wpList_plain hgd fun K hK => ?_
      have hz1 : ∀ w, (Go.sizeOf te).run P w = .ok 1 w := fun w => by simp [sizeOf, typeInfo, bt.hi, bt.h1]
      have hcp := run_copy_string (P := P) w tb tst o.type te g (off + l.length) dn dc ⟨ns.toArray⟩ bt.ht hz1 (by rw [hss]; exact hle)
        (fun j hj => by rw [hss] at hj; rw [Nat.add_assoc]; exact hr.there _ (by omega)) (fun j hj => by rw [hss] at hj; rw [Nat.add_assoc]; exact hr.free _ (by omega))
      rw [hss] at hcp
      unfold Oper.wp execOp
      simp only [ho, resolve, invoke, builtin, Sem.run_bind, Sem.run_pure, Result.andThen_ok, List.map_toArray, List.map_cons, List.map_nil, hx, hy, hcp]
      exact hK _ _ (h _ (hown.extend ns hfit) (setB_grown ..) (sC_size ..))
/-- 'make([]byte, n, m)'. -/
theorem wpList_mkc (hgd : o.guard = none) (x y : Operand) (ho : o.op = .makeSlice tb x y) (n m : Nat) (kl kc : IntKind) (c d : Int) (hx : a.eval x = .int kl c) (hy : a.eval y = .int kc d) (hc : c = n) (hd : d = m) (hnm : n ≤ m) (hsz : m ≤ 140737488355328)
    (h : ∀ w', OwnB w' w.heap.size (some ⟨w.heap.size, 0, none⟩) m [] → w'.heap.size = w.heap.size + 1 → Below w.heap.size w w' → wpList P ops Q rest (a.put o.dst (.slice (some ⟨w.heap.size, 0, none⟩) n m)) w') : wpList P ops Q (o :: rest) a w := by
  subst hc; subst hd
  refine wpList_plain hgd fun K hK => ?_
  have hb1 := bt.h1; have hb2 := bt.hb
  have hr := run_make (P := P) w tb te i (.int .u8 0) bt.ht bt.hi bt.hz kl kc (n : Int) (m : Int) (by omega) (by omega) (by rw [hb2]; omega) (by omega)
  unfold Oper.wp execOp
  simp only [ho, hx, hy, Sem.run_bind, Sem.run_pure, hr, Result.andThen_ok, Int.toNat_natCast]
  refine hK _ _ (h _ ?_ (by simp) ((Below.refl _ _).alloc (Nat.le_refl _) _))
  refine Own.laid (fr := (0, 0)) (heap_alloc_last w _) (.inr (Nat.le_refl _)) (Nat.le_refl _) (by simp [bts]) (Nat.zero_le _) (by simp only [maxLen]; omega) (by simp [size_madeCells, hb1]) (fun j hj => by simp [bts] at hj)
/-- The slice of a region that only reads so far. -/
theorem wpStill_from {Q : Act → Prop} (hgd : o.guard = none) (x y : Operand) (ho : o.op = .slice tb x (some y) none none) (p : Option Addr) (n cap lo : Nat) (k : IntKind) (c : Int) (hx : a.eval x = .slice p n cap) (hy : a.eval y = .int k c) (hc : c = lo) (hlo : lo ≤ n)
    (h : wpStill P ops w Q rest (a.put o.dst (.slice (tailP p lo cap) (n - lo) (cap - lo)))) : wpStill P ops w Q (o :: rest) a := by
  subst hc
  refine wpStill_val hgd _ ?_ h
  have hr := run_from bt p n cap lo k hlo w
  unfold execOp
  simp only [ho, hx, hy, Option.map_some, Option.map_none, run_sliceAt_slice w tb _ _ _ _ bt.elem, Sem.run_bind, Sem.run_pure, hr, Result.andThen_ok]
/-- 'append([]byte(nil), make([]byte, n)...)'. -/
theorem wpList_zeros (hgd : o.guard = none) (s x : Operand) (tn : TypeId) (k kn : IntKind) (htn : P.underlying tn = some (.int kn)) (ho : o.op = .call { callee := .builtin .append, args := #[s, x], argTypes := #[tb, tn] })
    (hs : a.eval s = .slice none 0 0) (n : Nat) (c : Int) (hx : a.eval x = .int k c) (hc : c = n) (h0 : 0 < n) (h48 : n ≤ 140737488355328)
    (h : ∀ cap w', OwnB w' w.heap.size (some ⟨w.heap.size, 0, none⟩) cap [] → n ≤ cap → w'.heap.size = w.heap.size + 1 → Below w.heap.size w w' → wpList P ops Q rest (a.put o.dst (.slice (some ⟨w.heap.size, 0, none⟩) n cap)) w') : wpList P ops Q (o :: rest) a w := by
  subst hc
  have hr := Lib.run_append_nil_zeros (P := P) w tb tn o.type te i (.int .u8 0) k kn bt.ht htn bt.hi bt.hz n h0 (by rw [bt.h1]; decide) (by omega) (by rw [bt.hb]; omega)
  refine Lib.wpList_append_run w hgd s x tb tn ho _ _ hs hx _ _ hr ?_
  have hge := grownCap_ge w n 0 te
  have hcm : grownCap w n 0 te ≤ maxLen := grownCap_le_maxLen w n 0 te (by simp only [maxLen]; omega)
  refine h _ _ ?_ hge (by simp) ⟨rfl, rfl, rfl, by simp, fun k hk => heap_lt w.drew _ k hk⟩
  refine Own.laid (fr := (0, 0)) (heap_alloc_new w.drew _) (.inr (Nat.le_refl _)) (Nat.le_refl _) (by simp [bts]) (Nat.zero_le _) hcm ?_ (fun j hj => by simp [bts] at hj)
  simp [size_zeroCells, Value.cells]; omega
end
end Go.Proofs.YtdnigbbfiklaoaaDoor
