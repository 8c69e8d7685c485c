/- Slices that the call owns, at whatever offset, in whatever block (marked behind its cells or not): appended to, cut, stored into, read. -/
import Derived.Test.YtdnigbbfiklaoaaDoorLaws
import Derived.Test.YtdnigbbfiklaoaaDoorShaSpec
import Derived.Laws.IdiomCopy
import Derived.Lib.ConvBytes
namespace Go.Proofs.YtdnigbbfiklaoaaDoor
open Go.RowKit

structure Row (w : World) (g off cap size : Nat) (xs : List Value) : Prop where
  cells : ∀ j, j < xs.length → w.cell? ⟨g, off + j, none⟩ = xs[j]?
  there : ∀ j, j < cap * size → (w.cell? ⟨g, off + j, none⟩).isSome = true
  free : ∀ j, j < cap * size → w.frozen? ⟨g, off + j, none⟩ = false

def Own (w : World) (base size : Nat) (v : Value) (n : Nat) (xs : List Value) : Prop :=
  xs.length = n * size ∧ ((v = .slice none 0 0 ∧ n = 0) ∨ ∃ g off cap, v = .slice (some ⟨g, off, none⟩) n cap ∧ base ≤ g ∧ n ≤ cap ∧ cap ≤ maxLen ∧ Row w g off cap size xs)

theorem Own.nil (w : World) (base size : Nat) : Own w base size (.slice none 0 0) 0 [] := ⟨by simp, .inl ⟨rfl, rfl⟩⟩

theorem Row.frame {w w' : World} {g off cap size : Nat} {xs : List Value} (h : Row w g off cap size xs) (hx : xs.length ≤ cap * size) (hb : g < w.heap.size → w'.heap[g]? = w.heap[g]?) : Row w' g off cap size xs := by
  have key : ∀ j, j < cap * size → w'.heap[g]? = w.heap[g]? := fun j hj => hb (by
    obtain ⟨v, hv⟩ := Option.isSome_iff_exists.1 (h.there j hj)
    exact block_lt_of_cell hv)
  exact ⟨fun j hj => by rw [World.cell?_of_block (w := w) (key j (by omega))]; exact h.cells j hj,
    fun j hj => by rw [World.cell?_of_block (w := w) (key j hj)]; exact h.there j hj,
    fun j hj => by rw [World.frozen?_of_block (w := w) (key j hj)]; exact h.free j hj⟩

theorem Own.frame {w w' : World} {base size : Nat} {v : Value} {n : Nat} {xs : List Value} (h : Own w base size v n xs) (hb : ∀ g, v.ownBlock = some g → g < w.heap.size → w'.heap[g]? = w.heap[g]?) : Own w' base size v n xs := by
  obtain ⟨h1, h2 | ⟨g, off, cap, rfl, hbg, hn, hm, hr⟩⟩ := h
  · exact ⟨h1, .inl h2⟩
  · exact ⟨h1, .inr ⟨g, off, cap, rfl, hbg, hn, hm, hr.frame (by rw [h1]; exact Nat.mul_le_mul_right _ hn) (hb g rfl)⟩⟩

theorem Own.alloc {w : World} {base size : Nat} {v : Value} {n : Nat} {xs : List Value} (h : Own w base size v n xs) (o : Obj) : Own (w.alloc o) base size v n xs :=
  h.frame fun _ _ hl => heap_lt _ _ _ hl
theorem Own.drew {w : World} {base size : Nat} {v : Value} {n : Nat} {xs : List Value} (h : Own w base size v n xs) : Own w.drew base size v n xs := h.frame fun _ _ _ => rfl
theorem Own.drewN {w : World} {base size : Nat} {v : Value} {n : Nat} {xs : List Value} (h : Own w base size v n xs) (k : Nat) : Own (w.drewN k) base size v n xs := h.frame fun _ _ _ => rfl
theorem Own.grown {w w' : World} {base size : Nat} {v : Value} {n : Nat} {xs : List Value} {row : Option Nat} (h : Own w base size v n xs) (hg : w.grownBy w' row) (hr : ∀ g, v.ownBlock = some g → row ≠ some g) : Own w' base size v n xs :=
  h.frame fun g hg' hl => hg.block g hl (fun e => hr g hg' e.symm)
theorem Own.setOther {w : World} {base size : Nat} {v : Value} {n : Nat} {xs : List Value} (h : Own w base size v n xs) (p : Addr) (u : Value) (hp : ∀ g, v.ownBlock = some g → g ≠ p.block) : Own (w.setCell p u) base size v n xs :=
  h.frame fun g hg _ => heap_ne _ _ _ _ (hp g hg)
theorem Own.setRowOther {w : World} {base size : Nat} {v : Value} {n : Nat} {xs : List Value} (h : Own w base size v n xs) (b : Nat) (cs : Array Value) (hp : ∀ g, v.ownBlock = some g → g ≠ b) : Own (w.setRow b cs) base size v n xs :=
  h.frame fun g hg _ => row_ne _ _ _ _ (hp g hg)
theorem Own.below {w w' : World} {base size B : Nat} {v : Value} {n : Nat} {xs : List Value} (h : Own w base size v n xs) (hb : Below B w w') (hB : ∀ g, v.ownBlock = some g → g < B) : Own w' base size v n xs :=
  h.frame fun g hg _ => hb.block g (hB g hg)
theorem Own.mono {w : World} {base base' size : Nat} {v : Value} {n : Nat} {xs : List Value} (h : Own w base size v n xs) (hb : base' ≤ base) : Own w base' size v n xs := by
  obtain ⟨h1, h2 | ⟨g, off, cap, rfl, hbg, hn, hm, hr⟩⟩ := h
  · exact ⟨h1, .inl h2⟩
  · exact ⟨h1, .inr ⟨g, off, cap, rfl, by omega, hn, hm, hr⟩⟩
theorem Own.block_lt {w : World} {base size : Nat} {g off n cap : Nat} {xs : List Value} (h : Own w base size (.slice (some ⟨g, off, none⟩) n cap) n xs) (hc : 0 < cap * size) : g < w.heap.size := by
  obtain ⟨_, h2 | ⟨g', off', cap', e, _, _, _, hr⟩⟩ := h
  · cases h2.1
  · cases e
    obtain ⟨v, hv⟩ := Option.isSome_iff_exists.1 (hr.there 0 hc)
    exact block_lt_of_cell hv

/-- A row of cells laid whole: the first n elements are what is said, the rest is there. -/
theorem Own.laid {w : World} {base size g n cap : Nat} {cur : Array Value} {e : TypeId} {fr : Nat × Nat} {xs : List Value} (hg : w.heap[g]? = some (.cells cur e fr)) (hfr : cur.size ≤ fr.1 ∨ fr.2 ≤ fr.1)
    (hb : base ≤ g) (hx : xs.length = n * size) (hn : n ≤ cap) (hm : cap ≤ maxLen) (hs : cap * size ≤ cur.size) (hc : ∀ j, j < xs.length → cur[j]? = xs[j]?) : Own w base size (.slice (some ⟨g, 0, none⟩) n cap) n xs := by
  refine ⟨hx, .inr ⟨g, 0, cap, rfl, hb, hn, hm, ⟨fun j hj => ?_, fun j hj => ?_, fun j hj => ?_⟩⟩⟩
  · rw [cell_of_row w g _ cur e fr hg, Nat.zero_add]; exact hc j hj
  · rw [cell_of_row w g _ cur e fr hg, Nat.zero_add]; simp; omega
  · obtain ⟨lo, hi⟩ := fr
    simp only [World.frozen?, hg, Nat.zero_add]
    simp only at hfr
    rcases hfr with h | h
    · simp; intro; omega
    · simp; intro; omega

theorem sC_os (b : Nat) : ∀ (vs : List Value) (o : Nat) (w : World), (w.setCells b o vs).os = w.os
  | [], _, _ => rfl
  | v :: r, o, w => by rw [World.setCells, sC_os b r]; rfl
theorem sC_tape (b : Nat) : ∀ (vs : List Value) (o : Nat) (w : World), (w.setCells b o vs).tape = w.tape
  | [], _, _ => rfl
  | v :: r, o, w => by rw [World.setCells, sC_tape b r]; rfl
theorem sC_output (b : Nat) : ∀ (vs : List Value) (o : Nat) (w : World), (w.setCells b o vs).output = w.output
  | [], _, _ => rfl
  | v :: r, o, w => by rw [World.setCells, sC_output b r]; rfl
@[simp] theorem sC_size (b : Nat) : ∀ (vs : List Value) (o : Nat) (w : World), (w.setCells b o vs).heap.size = w.heap.size
  | [], _, _ => rfl
  | v :: r, o, w => by rw [World.setCells, sC_size b r]; simp
theorem sC_block (b k : Nat) (h : k ≠ b) : ∀ (vs : List Value) (o : Nat) (w : World), (w.setCells b o vs).heap[k]? = w.heap[k]?
  | [], _, _ => rfl
  | v :: r, o, w => by rw [World.setCells, sC_block b k h r, heap_ne _ _ _ _ h]

section
variable {P : Program} (w : World)
theorem addr_add (b o j : Nat) : (⟨b, o, none⟩ : Addr).add j = ⟨b, o + j, none⟩ := by unfold Addr.add; split <;> simp_all

theorem run_append_Own (base : Nat) (t ty e : TypeId) (i : TypeInfo) (z : Value) (ht : P.underlying t = some (.slice e)) (hi : P.info? e = some i) (hz : i.zero = some z)
    (hzs : z.cells.size = i.size) (v : Value) (n : Nat) (xs : List Value) (hown : Own w base i.size v n xs)
    (a : Addr) (m c : Nat) (news : List Value) (hl : news.length = m * i.size) (hnews : ∀ j u, news[j]? = some u → w.cell? (a.add j) = some u) (h1 : ∀ u ∈ news, u.oneCell' = true)
    (h63 : n + m ≤ maxLen) (hbytes : (n + m) * i.bytes ≤ 140737488355328) (hbase : base ≤ w.heap.size) :
    ∃ v' w', (Builtin.append_ #[t, t] ty #[v, .slice (some a) m c]).run P w = .ok v' w' ∧ Own w' base i.size v' (n + m) (xs ++ news) ∧ w.grownBy w' v.ownBlock ∧
      (v' = .slice none 0 0 ↔ v = .slice none 0 0 ∧ m = 0) := by
  have hsmall : n + m ≤ 9223372036854775807 := by simp only [maxLen] at h63; omega
  have hlen : (xs ++ news).length = (n + m) * i.size := by rw [List.length_append, hown.1, hl, Nat.add_mul]
  have grown : ∀ (old : Nat), old < n + m → ∀ (row : Option Nat),
      Own (w.drew.alloc (.cells (xs.toArray ++ news.toArray ++ Builtin.zeroCells z.cells (grownCap w (n + m) old e - (n + m))) e)) base i.size
        (.slice (some ⟨w.heap.size, 0, none⟩) (n + m) (grownCap w (n + m) old e)) (n + m) (xs ++ news) ∧
      w.grownBy (w.drew.alloc (.cells (xs.toArray ++ news.toArray ++ Builtin.zeroCells z.cells (grownCap w (n + m) old e - (n + m))) e)) row := by
    intro old ho row
    have hge := grownCap_ge w (n + m) old e
    have hcm : grownCap w (n + m) old e ≤ maxLen := grownCap_le_maxLen w (n + m) old e h63
    refine ⟨Own.laid (fr := (0, 0)) (heap_alloc_new w.drew _) (.inr (Nat.le_refl _)) hbase hlen hge hcm ?_ ?_, ⟨rfl, rfl, rfl, by simp, fun k hk _ => heap_lt w.drew _ k hk⟩⟩
    · simp only [Array.size_append, List.size_toArray, size_zeroCells, hzs, hown.1, hl, ← Nat.add_mul]
      exact Nat.mul_le_mul_right _ (by omega)
    · intro j hj
      rw [Array.getElem?_append_left (by simpa using hj)]
      simp
  rcases hown.2 with ⟨rfl, rfl⟩ | ⟨g, off, cap, rfl, hbg, hnc, hcm, hr⟩
  · have hx : xs = [] := List.eq_nil_of_length_eq_zero (by simpa using hown.1)
    subst hx
    by_cases hm : m = 0
    · subst hm
      have hn : news = [] := List.eq_nil_of_length_eq_zero (by simpa using hl)
      subst hn
      refine ⟨.slice none 0 0, w, ?_, Own.nil w base i.size, ⟨rfl, rfl, rfl, Nat.le_refl _, fun _ _ _ => rfl⟩, by simp⟩
      simp [Builtin.append_, run_underlying ht, sizeOf, typeInfo, hi, Builtin.lenOf, Builtin.firstCells, loadCells, loadCellsFrom]
    · have hr := run_append_nil (P := P) w t ty e i z ht hi hz a m c news hl hnews (by omega) (by omega) (by have hb := hbytes; simp only [Nat.zero_add] at hb; omega)
      have hgr := grown 0 (by omega) (Value.ownBlock (.slice none 0 0))
      simp only [Nat.zero_add, List.nil_append, Array.empty_append] at hgr ⊢
      exact ⟨_, _, hr, hgr.1, hgr.2, by simp [hm]⟩
  · by_cases hroom : n + m ≤ cap
    · have hnl : news.length ≤ (cap - n) * i.size := by rw [hl]; exact Nat.mul_le_mul_right _ (by omega)
      have hsum : n * i.size + (cap - n) * i.size = cap * i.size := by rw [← Nat.add_mul]; congr 1; omega
      have hf := run_firstCells_some (P := P) w i.size m a m c news hl hnews
      have hst := run_storeCells_cells (P := P) g (off + n * i.size) news 0 w (fun j hj => by
          rw [show off + n * i.size + 0 + j = off + (n * i.size + j) by omega]; exact hr.there _ (by omega))
        (fun j hj => by rw [show off + n * i.size + 0 + j = off + (n * i.size + j) by omega]; exact hr.free _ (by omega)) h1
      simp only [Nat.add_zero] at hst
      have hrun : (Builtin.append_ #[t, t] ty #[.slice (some ⟨g, off, none⟩) n cap, .slice (some a) m c]).run P w = .ok (.slice (some ⟨g, off, none⟩) (n + m) cap) (w.setCells g (off + n * i.size) news) := by
        simp [Builtin.append_, run_underlying ht, sizeOf, typeInfo, hi, Builtin.lenOf, hroom, hf, addr_add, hst]
      refine ⟨_, _, hrun, ⟨hlen, .inr ⟨g, off, cap, rfl, hbg, hroom, hcm, ⟨fun j hj => ?_, fun j hj => ?_, fun j hj => ?_⟩⟩⟩, ?_, by simp⟩
      · by_cases hjn : j < n * i.size
        · rw [World.cell?_setCells_out g news _ w ⟨g, off + j, none⟩ (fun _ _ => Or.inl (by show off + j < _; omega)), hr.cells j (by rw [hown.1]; exact hjn), List.getElem?_append_left (by rw [hown.1]; exact hjn)]
        · have hj2 : j - n * i.size < news.length := by rw [hlen, Nat.add_mul] at hj; omega
          have := World.cell?_setCells_in g news (off + n * i.size) w (fun k hk => by
            rw [show off + n * i.size + k = off + (n * i.size + k) by omega]; exact hr.there _ (by omega)) (j - n * i.size) hj2
          rw [show off + n * i.size + (j - n * i.size) = off + j by omega] at this
          rw [this, List.getElem?_append_right (by rw [hown.1]; omega), hown.1, List.getElem?_eq_getElem hj2]
      · by_cases hin : off + n * i.size ≤ off + j ∧ off + j < off + n * i.size + news.length
        · have := World.cell?_setCells_in g news (off + n * i.size) w (fun k hk => by
            rw [show off + n * i.size + k = off + (n * i.size + k) by omega]; exact hr.there _ (by omega)) (j - n * i.size) (by omega)
          rw [show off + n * i.size + (j - n * i.size) = off + j by omega] at this
          rw [this]; rfl
        · rw [World.cell?_setCells_out g news _ w ⟨g, off + j, none⟩ (fun _ _ => by show off + j < _ ∨ _ ≤ off + j; omega)]
          exact hr.there j hj
      · rw [World.frozen?_setCells]; exact hr.free j hj
      · exact ⟨sC_os .., sC_tape .., sC_output .., by rw [sC_size]; exact Nat.le_refl _, fun k _ hk => sC_block _ _ (fun e => hk (by rw [e]; rfl)) _ _ _⟩
    · have holds : ∀ j u, xs[j]? = some u → w.cell? ((⟨g, off, none⟩ : Addr).add j) = some u := fun j u hu => by
        rw [addr_add, hr.cells j (List.getElem?_eq_some_iff.1 hu).1]; exact hu
      have hr := run_append_grow (P := P) w t ty e i z ht hi hz ⟨g, off, none⟩ n cap xs hown.1 holds a m c news hl hnews (by omega) (by omega) (growslice_fits (by omega) hbytes)
      have hgr := grown cap (by omega) (Value.ownBlock (.slice (some ⟨g, off, none⟩) n cap))
      exact ⟨_, _, hr, hgr.1, hgr.2, by simp⟩

theorem wpList_append_Own {ops : Array Oper} {rest : List Oper} {o : Oper} {a : Act} {Q : Exit → Act → World → Prop} (hgd : o.guard = none) (s x : Operand) (t : TypeId)
    (ho : o.op = .call { callee := .builtin .append, args := #[s, x], argTypes := #[t, t] })
    (base : Nat) (e : TypeId) (i : TypeInfo) (z : Value) (ht : P.underlying t = some (.slice e)) (hi : P.info? e = some i) (hz : i.zero = some z) (hzs : z.cells.size = i.size)
    (v : Value) (n : Nat) (xs : List Value) (hs : a.eval s = v) (hown : Own w base i.size v n xs)
    (ad : Addr) (m c : Nat) (news : List Value) (hx : a.eval x = .slice (some ad) m c) (hl : news.length = m * i.size) (hnews : ∀ j u, news[j]? = some u → w.cell? (ad.add j) = some u) (h1 : ∀ u ∈ news, u.oneCell' = true)
    (h63 : n + m ≤ maxLen) (hbytes : (n + m) * i.bytes ≤ 140737488355328) (hbase : base ≤ w.heap.size)
    (h : ∀ v' w', Own w' base i.size v' (n + m) (xs ++ news) → w.grownBy w' v.ownBlock → (v' = .slice none 0 0 ↔ v = .slice none 0 0 ∧ m = 0) → wpList P ops Q rest (a.put o.dst v') w') : wpList P ops Q (o :: rest) a w := by
  refine wpList_plain hgd fun K hK => ?_
  obtain ⟨v', w', hr, h2, h3, h4⟩ := run_append_Own (P := P) w base t o.type e i z ht hi hz hzs v n xs hown ad m c news hl hnews h1 h63 hbytes hbase
  unfold Oper.wp execOp
  simp only [ho, resolve, invoke, builtin, Sem.run_bind, Sem.run_pure, Result.andThen_ok, List.map_toArray, List.map_cons, List.map_nil, hs, hx, hr]
  exact hK _ _ (h v' w' h2 h3 h4)
end

theorem grown_of_below {w w' : World} (h : Below w.heap.size w w') (row : Option Nat) : w.grownBy w' row := ⟨h.os, h.tape, h.output, h.size, fun k hk _ => h.block k hk⟩
theorem grown_set {w w' : World} {B : Nat} (h : w.grownBy w' (some B)) (j : Nat) (u : Value) : w.grownBy (w'.setCell ⟨B, j, none⟩ u) (some B) :=
  ⟨h.os, h.tape, h.output, by simpa using h.size, fun k hk hne => by rw [heap_ne _ _ _ _ (fun e => hne (by rw [e]))]; exact h.block k hk hne⟩
theorem grown_drew {w w' : World} {row : Option Nat} (h : w.grownBy w' row) : w.grownBy w'.drew row := ⟨h.os, h.tape, h.output, h.size, h.block⟩
section
variable {P : Program} {w : World}
theorem wpList_copy32 {ops : Array Oper} {rest : List Oper} {o : Oper} {a : Act} {Q : Exit → Act → World → Prop} (hgd : o.guard = none) (x y : Operand) (dT sT elem : TypeId)
    (ho : o.op = .call { callee := .builtin .copy, args := #[x, y], argTypes := #[dT, sT] }) (hu : P.underlying dT = some (.slice elem)) (hs : (P.info? elem).map (·.size) = some 1)
    (B off dLen dCap soff sLen sCap : Nat) (l us : List UInt32) (T : TypeId) (hg : w.heap[B]? = some (.cells (Sha.arr32 l) T (0, 0)))
    (hx : a.eval x = .slice (some ⟨B, off, none⟩) dLen dCap) (hy : a.eval y = .slice (some ⟨B, soff, none⟩) sLen sCap) (hn : us.length = Nat.min sLen dLen) (hd : off + us.length ≤ l.length)
    (hus : ∀ j u, us[j]? = some u → l[soff + j]? = some u)
    (h : ∀ w', w'.heap[B]? = some (.cells (Sha.arr32 (Sha.setL l off us)) T (0, 0)) → w.grownBy w' (some B) → w'.heap.size = w.heap.size → wpList P ops Q rest (a.put o.dst (goInt us.length)) w') : wpList P ops Q (o :: rest) a w := by
  refine wpList_plain hgd fun K hK => ?_
  have hc : ∀ j, j < l.length → w.cell? ⟨B, j, none⟩ = some (.int .u32 ((Sha.g l j).toNat : Int)) := fun j hj => Sha.cell32 hg hj
  have hr := run_copy_cells (P := P) w dT sT o.type elem B off dLen dCap ⟨B, soff, none⟩ sLen sCap (us.map fun u => Value.int .u32 (u.toNat : Int)) hu hs (by rw [List.length_map]; exact hn)
    (fun j v hv => by
      rw [List.getElem?_map] at hv
      cases hj : us[j]? with
      | none => simp [hj] at hv
      | some u =>
        rw [hj] at hv
        have h2 := hus j u hj
        have hlt := (List.getElem?_eq_some_iff.1 h2).1
        have : (⟨B, soff, none⟩ : Addr).add j = ⟨B, soff + j, none⟩ := by unfold Addr.add; split <;> simp_all
        rw [this, hc _ hlt, ← hv]
        simp [Sha.g_get, h2])
    (fun j hj => by rw [hc _ (by rw [List.length_map] at hj; omega)]; rfl) (fun j hj => Sha.free32 hg _)
    (fun v hv => by simp at hv; obtain ⟨u, _, rfl⟩ := hv; rfl)
  rw [List.length_map] at hr
  unfold Oper.wp execOp
  simp only [ho, resolve, invoke, builtin, Sem.run_bind, Sem.run_pure, Result.andThen_ok, List.map_toArray, List.map_cons, List.map_nil, hx, hy, hr]
  exact hK _ _ (h _ (Sha.setCells32 T B us off w l hg) ⟨sC_os .., sC_tape .., sC_output .., by rw [sC_size]; exact Nat.le_refl _, fun k _ hk => sC_block _ _ (fun e => hk (by rw [e])) _ _ _⟩ (sC_size ..))
end

/-! ### Bytes -/
def bts (l : List UInt8) : List Value := l.map fun c => Value.int .u8 (c.toNat : Int)
theorem len_bts (l : List UInt8) : (bts l).length = l.length := by simp [bts]
theorem bts_app (l m : List UInt8) : bts (l ++ m) = bts l ++ bts m := by simp [bts]
theorem one_bts (l : List UInt8) : ∀ u ∈ bts l, u.oneCell' = true := by intro u hu; simp [bts] at hu; obtain ⟨c, _, rfl⟩ := hu; rfl
theorem get_bts {l : List UInt8} {j : Nat} (h : j < l.length) : (bts l)[j]? = some (.int .u8 ((l.getD j 0).toNat : Int)) := by
  simp [bts, List.getD, List.getElem?_eq_getElem h]
theorem ba_app (a b : Array UInt8) : (({ data := a } : ByteArray) ++ { data := b }) = { data := a ++ b } := by
  apply ByteArray.ext; simp
attribute [go_sem] ba_app
theorem str_of (s : ByteArray) : s = ⟨s.data.toList.toArray⟩ := by cases s; simp

/-- The bytes l lie in the slice (p, l.length, cap), whose block is one from base on. -/
def OwnB (w : World) (base : Nat) (p : Option Addr) (cap : Nat) (l : List UInt8) : Prop := Own w base 1 (.slice p l.length cap) l.length (bts l)

/-- What the laws ask of a program's types: '[]byte', 'byte', 'string'. -/
structure BT (P : Program) (tb te ts : TypeId) (i : TypeInfo) : Prop where
  ht : P.underlying tb = some (.slice te)
  he : P.underlying te = some (.int .u8)
  hs : P.underlying ts = some .string
  hi : P.info? te = some i
  hz : i.zero = some (.int .u8 0)
  h1 : i.size = 1
  hb : i.bytes = 1

theorem Own.shape {w : World} {base size : Nat} {v : Value} {n : Nat} {xs : List Value} (h : Own w base size v n xs) : ∃ p cap, v = .slice p n cap := by
  obtain ⟨_, ⟨rfl, rfl⟩ | ⟨g, off, cap, rfl, _⟩⟩ := h
  · exact ⟨none, 0, rfl⟩
  · exact ⟨some ⟨g, off, none⟩, cap, rfl⟩
theorem OwnB.isAt {w : World} {base : Nat} {p : Option Addr} {cap : Nat} {l : List UInt8} (h : OwnB w base p cap l) (hl : 0 < l.length) : ∃ g off, p = some ⟨g, off, none⟩ ∧ base ≤ g ∧ l.length ≤ cap ∧ g < w.heap.size := by
  obtain ⟨_, ⟨_, h2⟩ | ⟨g, off, cap', e, hb, hn, _, hr⟩⟩ := h
  · omega
  · cases e
    refine ⟨g, off, rfl, hb, hn, ?_⟩
    obtain ⟨v, hv⟩ := Option.isSome_iff_exists.1 (hr.there 0 (by omega))
    exact block_lt_of_cell hv
theorem OwnB.base {w : World} {base : Nat} {p : Option Addr} {cap : Nat} {l : List UInt8} (h : OwnB w base p cap l) : ∀ g, p.map (·.block) = Option.some g → base ≤ g := by
  obtain ⟨_, ⟨h2, _⟩ | ⟨g, off, cap', e, hb, _⟩⟩ := h
  · intro g hg; injection h2 with e1; subst e1; cases hg
  · intro g' hg; injection e with e1; subst e1; cases hg; exact hb
/-- The length of a slice: for a loop's measure. -/
def lenV : Value → Nat | .slice _ n _ => n | _ => 0
theorem OwnB.cell {w : World} {base g off cap : Nat} {l : List UInt8} (h : OwnB w base (some ⟨g, off, none⟩) cap l) {j : Nat} (hj : j < l.length) : w.cell? ⟨g, off + j, none⟩ = some (.int .u8 ((l.getD j 0).toNat : Int)) := by
  obtain ⟨_, h2 | ⟨g', off', cap', e, _, _, _, hr⟩⟩ := h
  · cases h2.1
  · cases e
    rw [hr.cells j (by rw [len_bts]; exact hj), get_bts hj]
theorem OwnB.free {w : World} {base g off cap : Nat} {l : List UInt8} (h : OwnB w base (some ⟨g, off, none⟩) cap l) {j : Nat} (hj : j < l.length) : w.frozen? ⟨g, off + j, none⟩ = false := by
  obtain ⟨_, h2 | ⟨g', off', cap', e, _, hn, _, hr⟩⟩ := h
  · cases h2.1
  · cases e
    exact hr.free j (by omega)
theorem OwnB.capB {w : World} {base cap : Nat} {p : Option Addr} {l : List UInt8} (h : OwnB w base p cap l) : l.length ≤ cap ∧ cap ≤ maxLen := by
  obtain ⟨_, ⟨h2, h3⟩ | ⟨g', off', cap', e, _, hn, hm, hr⟩⟩ := h
  · injection h2 with e1 e2 e3; subst e3; exact ⟨by omega, by simp only [maxLen]; omega⟩
  · cases e; exact ⟨hn, hm⟩
theorem OwnB.set {w : World} {base g off cap : Nat} {l : List UInt8} (h : OwnB w base (some ⟨g, off, none⟩) cap l) (j : Nat) (c : UInt8) (hj : j < l.length) : OwnB (w.setCell ⟨g, off + j, none⟩ (.int .u8 (c.toNat : Int))) base (some ⟨g, off, none⟩) cap (l.set j c) := by
  obtain ⟨h1, h2 | ⟨g', off', cap', e, hb, hn, hm, hr⟩⟩ := h
  · cases h2.1
  · cases e
    have hx := hr.cells j (by rw [len_bts]; exact hj)
    rw [get_bts hj] at hx
    refine ⟨by simp [len_bts], .inr ⟨g, off, cap, by simp, hb, by simpa using hn, hm, ⟨fun k hk => ?_, fun k hk => ?_, fun k hk => ?_⟩⟩⟩
    · by_cases hkj : k = j
      · subst hkj
        rw [World.cell?_setCell_same _ _ _ hx, get_bts (by simpa using hj)]
        simp [List.getD, hj]
      · rw [World.cell?_setCell_other _ _ _ _ (by first | (simp; done) | (simp; omega)), hr.cells k (by simpa [len_bts] using hk)]
        simp only [len_bts, List.length_set] at hk
        rw [get_bts hk, get_bts (by simpa using hk)]
        simp [List.getD, Ne.symm hkj]
    · by_cases hkj : k = j
      · subst hkj; rw [World.cell?_setCell_same _ _ _ hx]; rfl
      · rw [World.cell?_setCell_other _ _ _ _ (by first | (simp; done) | (simp; omega))]; exact hr.there k hk
    · rw [World.frozen?_setCell]; exact hr.free k hk
theorem OwnB.nil (w : World) (base : Nat) : OwnB w base none 0 [] := Own.nil w base 1
/-- A cut: b[lo:hi]. -/
theorem OwnB.cut {w : World} {base g off cap : Nat} {l : List UInt8} (h : OwnB w base (some ⟨g, off, none⟩) cap l) (lo hi : Nat) (h1 : lo ≤ hi) (h2 : hi ≤ l.length) : OwnB w base (some ⟨g, off + lo, none⟩) (cap - lo) ((l.drop lo).take (hi - lo)) := by
  have hc := h.capB
  obtain ⟨_, h3 | ⟨g', off', cap', e, hb, hn, hm, hr⟩⟩ := h
  · cases h3.1
  · cases e
    have hlen : ((l.drop lo).take (hi - lo)).length = hi - lo := by simp; omega
    refine ⟨by simp [len_bts], .inr ⟨g, off + lo, cap - lo, by simp, hb, by omega, by omega, ⟨fun k hk => ?_, fun k hk => ?_, fun k hk => ?_⟩⟩⟩
    · rw [len_bts, hlen] at hk
      rw [Nat.add_assoc, hr.cells (lo + k) (by rw [len_bts]; omega), get_bts (by omega), get_bts (by omega)]
      simp [List.getD, hk]
    · rw [Nat.add_assoc]; exact hr.there (lo + k) (by omega)
    · rw [Nat.add_assoc]; exact hr.free (lo + k) (by omega)

section
variable {P : Program} {tb te ts : TypeId} {i : TypeInfo} (bt : BT P tb te ts i) {ops : Array Oper} {rest : List Oper} {o : Oper} {a : Act} {w : World} {Q : Exit → Act → World → Prop}
include bt
theorem wpList_bytes_append (hgd : o.guard = none) (s x : Operand) (ho : o.op = .call { callee := .builtin .append, args := #[s, x], argTypes := #[tb, tb] })
    (base : Nat) (p : Option Addr) (cap n : Nat) (l : List UInt8) (hs : a.eval s = .slice p n cap) (hn : n = l.length) (hown : OwnB w base p cap l)
    (ad : Addr) (c : Nat) (m : Nat) (news : List UInt8) (hx : a.eval x = .slice (some ad) m c) (hm : m = news.length) (hnews : ∀ j, j < news.length → w.cell? (ad.add j) = some (.int .u8 ((news.getD j 0).toNat : Int)))
    (hbytes : l.length + news.length ≤ 140737488355328) (hbase : base ≤ w.heap.size)
    (h : ∀ p' cap' w', OwnB w' base p' cap' (l ++ news) → w.grownBy w' (p.map (·.block)) → wpList P ops Q rest (a.put o.dst (.slice p' (n + m) cap')) w') : wpList P ops Q (o :: rest) a w := by
  subst hm; subst hn
  have hml : l.length + news.length ≤ maxLen := by simp only [maxLen]; omega
  have hb1 := bt.h1; have hb2 := bt.hb
  refine wpList_append_Own w hgd s x tb ho base te i (.int .u8 0) bt.ht bt.hi bt.hz (by rw [hb1]; rfl) _ l.length (bts l) hs (by rw [hb1]; exact hown) ad news.length c (bts news) hx (by rw [hb1, len_bts, Nat.mul_one])
    (fun j u hu => ?_) (one_bts _) hml (by rw [hb2]; omega) hbase (fun v' w' h2 h3 h4 => ?_)
  · have hj : j < news.length := by rw [← len_bts]; exact (List.getElem?_eq_some_iff.1 hu).1
    rw [hnews j hj, ← get_bts hj]; exact hu
  · obtain ⟨p', cap', rfl⟩ := h2.shape
    refine h p' cap' w' ?_ ?_
    · rw [hb1, ← bts_app] at h2; unfold OwnB; simpa using h2
    · cases p <;> exact h3
/-- One byte more. -/
theorem wpList_push (hgd : o.guard = none) (s x : Operand) (ho : o.op = .call { callee := .builtin .append, args := #[s, x], argTypes := #[tb, tb] })
    (w0 : World) (z : Int) (tz : TypeId) (hw : w = w0.alloc (.cells #[.int .u8 z] tz)) (c : UInt8) (hz : z = (c.toNat : Int))
    (base : Nat) (p : Option Addr) (cap n : Nat) (l : List UInt8) (hs : a.eval s = .slice p n cap) (hn : n = l.length) (hown : OwnB w0 base p cap l)
    (g k : Nat) (hx : a.eval x = .slice (some ⟨g, 0, none⟩) 1 k) (hg : g = w0.heap.size) (hbytes : l.length < 140737488355328) (hbase : base ≤ w0.heap.size)
    (h : ∀ p' cap' w', OwnB w' base p' cap' (l ++ [c]) → w.grownBy w' (p.map (·.block)) → wpList P ops Q rest (a.put o.dst (.slice p' (n + 1) cap')) w') : wpList P ops Q (o :: rest) a w := by
  subst hw; subst hz; subst hg
  refine wpList_bytes_append bt hgd s x ho base p cap n l hs hn (Own.alloc hown _) ⟨w0.heap.size, 0, none⟩ k 1 [c] hx rfl (fun j hj => ?_) (by simp; omega) (by simp; omega) h
  obtain rfl : j = 0 := by simpa using hj
  rw [addr_add, World.cell?_alloc_new]; rfl
theorem wpList_sb (hgd : o.guard = none) (x : Operand) (ho : o.op = .convert ts tb x) (s : ByteArray) (hx : a.eval x = .string s) (hsz : s.size ≤ 140737488355328)
    (h : ∀ cap w', OwnB w' w.heap.size (some ⟨w.heap.size, 0, none⟩) cap s.data.toList → w'.heap.size = w.heap.size + 1 → Below w.heap.size w w' → wpList P ops Q rest (a.put o.dst (.slice (some ⟨w.heap.size, 0, none⟩) s.size cap)) w') : wpList P ops Q (o :: rest) a w := by
  refine wpList_plain hgd fun K hK => ?_
  have hr := Lib.run_convert_string_bytes (P := P) w ts tb te s bt.hs bt.ht bt.he
  unfold Oper.wp execOp
  simp only [ho, hx, Sem.run_bind, Sem.run_pure, hr, Result.andThen_ok]
  have hge := grownCap_ge w s.size 0 te
  have hcm : grownCap w s.size 0 te ≤ maxLen := grownCap_le_maxLen w s.size 0 te (by simp only [maxLen]; omega)
  have hcs : (Lib.bytesCells w te s).size = grownCap w s.size 0 te := by
    simp only [Lib.bytesCells, Array.size_append, Array.size_map, Array.size_replicate]
    have : s.data.size = s.size := rfl
    omega
  refine hK _ _ (h _ _ ?_ (Lib.bytesWorld_size ..) ⟨?_, ?_, ?_, by rw [Lib.bytesWorld_size]; omega, fun k hk => Lib.bytesWorld_at_old w te s k hk⟩)
  · refine Own.laid (Lib.bytesWorld_at_new w te s) (.inl (Nat.le_refl _)) (Nat.le_refl _) (by rw [len_bts, Nat.mul_one]) (by rw [Array.length_toList]; exact hge) hcm (by rw [hcs]; omega) ?_
    intro j hj
    rw [len_bts] at hj
    rw [get_bts hj]
    have hjs : j < s.data.size := by simpa using hj
    have hjs' : j < s.size := hjs
    simp [Lib.bytesCells, Array.getElem?_append, hjs', List.getD]
  all_goals (unfold Lib.bytesWorld World.freeze; rw [if_neg (by decide)]; rfl)
theorem wpList_sbl (hgd : o.guard = none) (x : Operand) (ho : o.op = .convert ts tb x) (s : ByteArray) (hx : a.eval x = .string s) (l : List UInt8) (hl : s.data.toList = l) (hsz : l.length ≤ 140737488355328)
    (h : ∀ cap w', OwnB w' w.heap.size (some ⟨w.heap.size, 0, none⟩) cap l → w'.heap.size = w.heap.size + 1 → Below w.heap.size w w' → wpList P ops Q rest (a.put o.dst (.slice (some ⟨w.heap.size, 0, none⟩) l.length cap)) w') : wpList P ops Q (o :: rest) a w := by
  subst hl
  have e : s.data.toList.length = s.size := by simp
  rw [e] at hsz
  refine wpList_sb bt hgd x ho s hx hsz (fun cap w' h1 h2 h3 => ?_)
  have := h cap w' h1 h2 h3
  rw [e] at this; exact this
theorem run_bs (base : Nat) (p : Option Addr) (cap n : Nat) (l : List UInt8) (hn : n = l.length) (w : World) (hown : OwnB w base p cap l) : (convert tb ts (.slice p n cap)).run P w = .ok (.string ⟨l.toArray⟩) w := by
  subst hn
  by_cases hl : l.length = 0
  · have e : l = [] := List.eq_nil_of_length_eq_zero hl
    subst e
    obtain ⟨_, ⟨h2, _⟩ | ⟨g, off, cap', e, _⟩⟩ := hown
    · cases h2; exact run_convert_bytes_nil w tb te bt.ht bt.he 0 0 ts bt.hs
    · cases e; exact run_convert_bytes_arg w tb te bt.ht bt.he g off 0 cap [] rfl (fun _ h => by omega) ts bt.hs
  · obtain ⟨g, off, rfl, _⟩ := hown.isAt (by omega)
    have := run_convert_bytes_arg w tb te bt.ht bt.he g off l.length cap (l.map fun c => (c.toNat : Int)) (by simp) (fun j hj => by rw [hown.cell hj]; simp [List.getD, hj]) ts bt.hs
    rw [this]; simp [strOfNums, Function.comp_def]
theorem wpList_bs (hgd : o.guard = none) (x : Operand) (ho : o.op = .convert tb ts x) (base : Nat) (p : Option Addr) (cap n : Nat) (l : List UInt8) (hx : a.eval x = .slice p n cap) (hn : n = l.length) (hown : OwnB w base p cap l)
    (h : wpList P ops Q rest (a.put o.dst (.string ⟨l.toArray⟩)) w) : wpList P ops Q (o :: rest) a w := by
  subst hn
  refine wpList_plain hgd fun K hK => ?_
  have hr := run_bs bt base p cap l.length l rfl w hown
  unfold Oper.wp execOp
  simp only [ho, hx, Sem.run_bind, Sem.run_pure, hr, Result.andThen_ok]
  exact hK _ _ h
theorem wpList_bs_lit (hgd : o.guard = none) (x : Operand) (ho : o.op = .convert tb ts x) (w0 : World) (cs : Array Value) (T : TypeId) (hw : w = w0.alloc (.cells cs T)) (g n k : Nat) (hx : a.eval x = .slice (some ⟨g, 0, none⟩) n k)
    (hg : g = w0.heap.size) (l : List UInt8) (hcs : cs = (bts l).toArray) (hn : n = l.length) (hk : k = l.length) (hm : l.length ≤ 140737488355328)
    (h : wpList P ops Q rest (a.put o.dst (.string ⟨l.toArray⟩)) w) : wpList P ops Q (o :: rest) a w := by
  subst hw; subst hg; subst hcs; subst hn; subst hk
  refine wpList_bs bt hgd x ho w0.heap.size (some ⟨w0.heap.size, 0, none⟩) l.length l.length l hx rfl ?_ h
  exact Own.laid (fr := (0, 0)) (heap_alloc_last w0 _) (.inr (Nat.le_refl _)) (Nat.le_refl _) (by simp [len_bts]) (Nat.le_refl _) (by simp only [maxLen]; omega) (by simp [len_bts]) (fun j hj => by simp)
theorem wpList_mk (hgd : o.guard = none) (x y : Operand) (ho : o.op = .makeSlice tb x y) (n : Nat) (kl kc : IntKind) (c : Int) (hx : a.eval x = .int kl c) (hy : a.eval y = .int kc c) (hc : c = n) (hsz : n ≤ 140737488355328)
    (h : ∀ w', OwnB w' w.heap.size (some ⟨w.heap.size, 0, none⟩) n (List.replicate n 0) → w'.heap.size = w.heap.size + 1 → Below w.heap.size w w' → wpList P ops Q rest (a.put o.dst (.slice (some ⟨w.heap.size, 0, none⟩) n n)) w') : wpList P ops Q (o :: rest) a w := by
  subst hc
  refine wpList_plain hgd fun K hK => ?_
  have hb1 := bt.h1; have hb2 := bt.hb
  have hr := run_make (P := P) w tb te i (.int .u8 0) bt.ht bt.hi bt.hz kl kc (n : Int) (n : Int) (by omega) (by omega) (by rw [hb2]; omega) (by omega)
  unfold Oper.wp execOp
  simp only [ho, hx, hy, Sem.run_bind, Sem.run_pure, hr, Result.andThen_ok, Int.toNat_natCast]
  refine hK _ _ (h _ ?_ (by simp) ((Below.refl _ _).alloc (Nat.le_refl _) _))
  unfold OwnB; rw [List.length_replicate]
  refine Own.laid (fr := (0, 0)) (heap_alloc_last w _) (.inr (Nat.le_refl _)) (Nat.le_refl _) (by simp [len_bts]) (Nat.le_refl _) (by simp only [maxLen]; omega) (by simp [size_madeCells, hb1]) ?_
  intro j hj
  have hj' : j < n := by simpa [len_bts] using hj
  rw [get_bts (by simpa using hj'), hb1]
  simp [madeCells, hj', List.getD, Value.cells, Nat.mod_one]
end
end Go.Proofs.YtdnigbbfiklaoaaDoor
