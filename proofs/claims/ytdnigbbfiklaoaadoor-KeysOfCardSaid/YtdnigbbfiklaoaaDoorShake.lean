/- The program's key schedule: behind, Handshake. -/
import Derived.Test.YtdnigbbfiklaoaaDoorProof
import Derived.Test.YtdnigbbfiklaoaaDoorReckon
namespace Go.Proofs.YtdnigbbfiklaoaaDoor
open Go.RowKit
/-- The closure 'of' makes: its three blocks. -/
structure OfS (W : World) (s : List UInt8) (E sb : Nat) : Prop where
  e : W.heap[E]? = some (.cells #[.int .i64 0] 26 (0, 0))
  sec : W.heap[sb]? = some (.cells #[.string ⟨s.toArray⟩] 9 (0, 0))
  ptr : W.heap[sb + 1]? = some (.cells #[.pointer (some ⟨E, 0, none⟩)] 49 (0, 0))
theorem OfS.below {W W' : World} {s : List UInt8} {E sb : Nat} (h : OfS W s E sb) (hb : Below W.heap.size W W') : OfS W' s E sb :=
  ⟨(hb.block _ (lt_of_block h.e)).trans h.e, (hb.block _ (lt_of_block h.sec)).trans h.sec, (hb.block _ (lt_of_block h.ptr)).trans h.ptr⟩
theorem OfS.call {W : World} {s : List UInt8} {E sb : Nat} (h : OfS W s E sb) (name ctx : List UInt8) (n : Int) (hs : s.length = 32) (hn : name.length ≤ 200) (hc : ctx.length ≤ 200) (h1 : 1 ≤ n) (h2 : n ≤ 32) (hkon : KonAt W) :
    Calls Tryd.prog 26 #[.string ⟨name.toArray⟩, .string ⟨ctx.toArray⟩, .int .i64 n, .pointer (some ⟨sb, 0, none⟩), .pointer (some ⟨sb + 1, 0, none⟩)] W fun e w' =>
      e = .returned (.string ⟨(Sha.label s name ctx n.toNat).toArray⟩) ∧ Below W.heap.size W w' := by
  refine (of1_any s name ctx n sb (sb + 1) E W (by omega) hn hc h1 h2 hkon ?_ ?_ ?_ ?_).mono ?_
  · rw [cell_of_row W _ 0 _ _ _ h.sec]; rfl
  · rw [cell_of_row W _ 0 _ _ _ h.ptr]; rfl
  · rw [cell_of_row W _ 0 _ _ _ h.e]; rfl
  · simp [World.frozen?, h.e]
  · rintro e w' ⟨rfl, w1, hb1, rfl⟩
    have e1 := (hb1.block _ (lt_of_block h.e)).trans h.e
    have hb0 := (hb1.mono (Nat.zero_le _)).setCell (p := ⟨E, 0, none⟩) (Nat.zero_le _) (.int .i64 0)
    refine ⟨rfl, hb0.os, hb0.tape, hb0.output, hb0.size, fun k hk => ?_⟩
    by_cases hkE : k = E
    · subst hkE
      exact (heap_setCell_same w1 k 0 _ _ _ e1).trans h.e.symm
    · exact (heap_ne _ _ _ _ hkE).trans (hb1.block k hk)
theorem of_S (s : List UInt8) (E : Nat) (w : World) (he : w.heap[E]? = some (.cells #[.int .i64 0] 26 (0, 0))) :
    Calls Tryd.prog 17 #[.string ⟨s.toArray⟩, .pointer (some ⟨E, 0, none⟩)] w fun e w' => ∃ sb, e = .returned (.func (.func 26) #[] #[.pointer (some ⟨sb, 0, none⟩), .pointer (some ⟨sb + 1, 0, none⟩)]) ∧ OfS w' s E sb ∧ Below w.heap.size w w' := by
  refine (of_any s E w).mono ?_
  rintro e w' ⟨rfl, rfl⟩
  have hl := lt_of_block he
  refine ⟨w.heap.size, rfl, ⟨?_, ?_, ?_⟩, ((Below.refl _ _).alloc (Nat.le_refl _) _).alloc (by simp) _⟩
  · rw [heap_lt _ _ _ (by simp; omega), heap_lt _ _ _ hl]; exact he
  · rw [heap_lt _ _ _ (by simp), heap_eq _ _ _ rfl]
  · rw [heap_eq _ _ _ (by simp)]
set_option maxHeartbeats 4000000 in
set_option maxRecDepth 100000 in
theorem behind_any (s x : List UInt8) (E : Nat) (w : World) (hs : s.length = 32) (hx : x.length = 32) (hkon : KonAt w) (he : w.heap[E]? = some (.cells #[.int .i64 0] 26 (0, 0))) :
    Calls Tryd.prog 23 #[.string ⟨s.toArray⟩, .string ⟨x.toArray⟩, .pointer (some ⟨E, 0, none⟩)] w fun e w' => e = .returned (.string ⟨(Sha.hmac (Sha.label s Sha.nDer (Sha.sha []) 32) x).toArray⟩) ∧ Below w.heap.size w w' := by
  have HE := Lib.hid he; clear he
  have HK := Lib.hid hkon; clear hkon
  have HS := Lib.hid hs; clear hs
  have HX := Lib.hid hx; clear hx
  go_enter Tryd.func23, Tryd.ntmps23
  go_wp2_with fail
  refine (of_S s E _ HE.out).mono ?_
  rintro e w1 ⟨sb, rfl, hat1, hb1⟩
  go_wp2_with fail
  refine (pOf_any [] _ (by simp) (HK.out.below hb1)).mono ?_
  rintro e w2 ⟨rfl, hb2⟩
  have hb02 := hb1.trans (hb2.mono hb1.size)
  have hat2 := hat1.below hb2
  go_wp2_with fail
  refine (hat2.call Sha.nDer (Sha.sha []) 32 HS.out (by decide) (by rw [Sha.len_sha]; decide) (by decide) (by decide) (HK.out.below hb02)).mono ?_
  rintro e w3 ⟨rfl, hb3⟩
  have hb03 := hb02.trans (hb3.mono hb02.size)
  go_wp2_with fail
  refine (pExtract_any (Sha.label s Sha.nDer (Sha.sha []) 32) x _ (by rw [Sha.len_label _ _ _ _ (by decide)]; decide) (by rw [HX.out]; decide) (HK.out.below hb03)).mono ?_
  rintro e w4 ⟨rfl, hb4⟩
  go_wp2_with fail
  go_ret
  exact ⟨rfl, hb03.trans (hb4.mono hb03.size)⟩
/-- What lies behind w in the middle of Handshake: the struct of results, e. -/
structure HsAt (w W : World) (cs : Array Value) : Prop where
  below : Below w.heap.size w W
  row : W.heap[w.heap.size]? = some (.cells cs 43 (0, 0))
  e : W.heap[w.heap.size + 1]? = some (.cells #[.int .i64 0] 26 (0, 0))
theorem HsAt.step {w W W' : World} {cs : Array Value} (h : HsAt w W cs) (hb : Below W.heap.size W W') : HsAt w W' cs :=
  ⟨h.below.trans (hb.mono h.below.size), (hb.block _ (lt_of_block h.row)).trans h.row, (hb.block _ (lt_of_block h.e)).trans h.e⟩
theorem HsAt.set {w W : World} {cs : Array Value} (h : HsAt w W cs) (j : Nat) (v : Value) : HsAt w (W.setCell ⟨w.heap.size, j, none⟩ v) (cs.setIfInBounds j v) :=
  ⟨h.below.setCell (Nat.le_refl _) _, heap_setCell_same W _ j _ _ _ h.row, (heap_ne _ _ _ _ (by simp)).trans h.e⟩
theorem HsAt.drew {w W : World} {cs : Array Value} (h : HsAt w W cs) : HsAt w W.drew cs := ⟨h.below.drew, h.row, h.e⟩
theorem HsAt.get {w W : World} {cs : Array Value} (h : HsAt w W cs) (j : Nat) : W.cell? ⟨w.heap.size, j, none⟩ = cs[j]? := cell_of_row W _ j _ _ _ h.row
theorem HsAt.gete {w W : World} {cs : Array Value} (h : HsAt w W cs) : W.cell? ⟨w.heap.size + 1, 0, none⟩ = some (.int .i64 0) := by rw [cell_of_row W _ 0 _ _ _ h.e]; rfl
theorem HsAt.free {w W : World} {cs : Array Value} (h : HsAt w W cs) (j : Nat) : W.frozen? ⟨w.heap.size, j, none⟩ = false := by simp [World.frozen?, h.row]
theorem HsAt.freee {w W : World} {cs : Array Value} (h : HsAt w W cs) : W.frozen? ⟨w.heap.size + 1, 0, none⟩ = false := by simp [World.frozen?, h.e]
abbrev mt : Value := .string ⟨#[]⟩
set_option maxHeartbeats 4000000 in
/-- The end: the results are read. -/
theorem hs_done {w V : World} {s0 s1 s2 s3 s4 s5 s6 : ByteArray} (n : Int) (hb : Below w.heap.size w V) (e2 : V.heap[w.heap.size]? = some (.cells #[.string s0, .string s1, .string s2, .string s3, .string s4, .string s5, .string s6] 43 (0, 0)))
    (c : V.cell? ⟨w.heap.size + 1, 0, none⟩ = some (.int .i64 n)) {a : Act} (hd : a.defers = []) (h4 : a.tmps[4]?.getD undef = .pointer (some ⟨w.heap.size, 0, none⟩)) (h5 : a.tmps[5]?.getD undef = .pointer (some ⟨w.heap.size + 1, 0, none⟩)) :
    bodyPost Tryd.prog Tryd.f14 (fun e w' => e = .returned (.tuple #[.agg #[.string s0, .string s1, .string s2, .string s3, .string s4, .string s5, .string s6], .int .i64 n]) ∧ Below w.heap.size w w') .ret a V := by
  obtain ⟨tmps, defers⟩ := a
  cases hd
  obtain ⟨c0, c1, c2, c3, c4, c5, c6⟩ : V.cell? ⟨w.heap.size, 0, none⟩ = some (.string s0) ∧ V.cell? ⟨w.heap.size, 1, none⟩ = some (.string s1) ∧ V.cell? ⟨w.heap.size, 2, none⟩ = some (.string s2) ∧ V.cell? ⟨w.heap.size, 3, none⟩ = some (.string s3) ∧ V.cell? ⟨w.heap.size, 4, none⟩ = some (.string s4) ∧ V.cell? ⟨w.heap.size, 5, none⟩ = some (.string s5) ∧ V.cell? ⟨w.heap.size, 6, none⟩ = some (.string s6) :=
    ⟨cell_of_row V _ 0 _ _ _ e2, cell_of_row V _ 1 _ _ _ e2, cell_of_row V _ 2 _ _ _ e2, cell_of_row V _ 3 _ _ _ e2, cell_of_row V _ 4 _ _ _ e2, cell_of_row V _ 5 _ _ _ e2, cell_of_row V _ 6 _ _ _ e2⟩
  refine bodyPost_ret (v := .tuple #[.agg #[.string s0, .string s1, .string s2, .string s3, .string s4, .string s5, .string s6], .int .i64 n]) (by simp [results, Tryd.results14, go_sem, h4, h5, c, c0, c1, c2, c3, c4, c5, c6]) rfl ⟨rfl, hb⟩
theorem HsAt.done {w W : World} {s0 s1 s2 s3 s4 s5 s6 : ByteArray} (h : HsAt w W #[.string s0, .string s1, .string s2, .string s3, .string s4, .string s5, .string s6]) (n : Int) {a : Act}
    (hd : a.defers = []) (h4 : a.tmps[4]?.getD undef = .pointer (some ⟨w.heap.size, 0, none⟩)) (h5 : a.tmps[5]?.getD undef = .pointer (some ⟨w.heap.size + 1, 0, none⟩)) :
    bodyPost Tryd.prog Tryd.f14 (fun e w' => e = .returned (.tuple #[.agg #[.string s0, .string s1, .string s2, .string s3, .string s4, .string s5, .string s6], .int .i64 n]) ∧ Below w.heap.size w w') .ret a (W.setCell ⟨w.heap.size + 1, 0, none⟩ (.int .i64 n)) :=
  hs_done n (h.below.setCell (p := ⟨w.heap.size + 1, 0, none⟩) (by simp) (.int .i64 n)) ((heap_ne _ _ _ _ (by simp)).trans h.row) (World.cell?_setCell_same _ _ _ h.gete) hd h4 h5
theorem HsAt.done_drew {w W : World} {s0 s1 s2 s3 s4 s5 s6 : ByteArray} (h : HsAt w W #[.string s0, .string s1, .string s2, .string s3, .string s4, .string s5, .string s6]) (n : Int) {a : Act}
    (hd : a.defers = []) (h4 : a.tmps[4]?.getD undef = .pointer (some ⟨w.heap.size, 0, none⟩)) (h5 : a.tmps[5]?.getD undef = .pointer (some ⟨w.heap.size + 1, 0, none⟩)) :
    bodyPost Tryd.prog Tryd.f14 (fun e w' => e = .returned (.tuple #[.agg #[.string s0, .string s1, .string s2, .string s3, .string s4, .string s5, .string s6], .int .i64 n]) ∧ Below w.heap.size w w') .ret a (W.setCell ⟨w.heap.size + 1, 0, none⟩ (.int .i64 n)).drew :=
  hs_done n (h.below.setCell (p := ⟨w.heap.size + 1, 0, none⟩) (by simp) (.int .i64 n)).drew ((heap_ne _ _ _ _ (by simp)).trans h.row) (World.cell?_setCell_same _ _ _ h.gete) hd h4 h5
set_option maxHeartbeats 4000000 in
set_option maxRecDepth 100000 in
theorem pHandshake_no (s t : List UInt8) (w : World) (h : ¬ (s.length = 32 ∧ t.length = 32)) :
    Calls Tryd.prog 14 #[.string ⟨s.toArray⟩, .string ⟨t.toArray⟩] w fun e w' => e = .returned (.tuple #[.agg #[mt, mt, mt, mt, mt, mt, mt], .int .i64 2]) ∧ Below w.heap.size w w' := by
  have hall : ([s, t].all fun s => s.length == 32) = false := by
    rw [Bool.eq_false_iff]; intro e; exact h (by simpa using e)
  go_enter Tryd.func14, Tryd.ntmps14
  go_wp2_with fail
  refine (whole_any [s, t] (w.heap.size + 1 + 1) _ (by simp) (fun j hj => ?_) 2 rfl).mono ?_
  · rw [cell_new _ _ _ _ _ (by simp)]
    have hj : j < 2 := hj
    obtain rfl | rfl : j = 0 ∨ j = 1 := by omega
    · rfl
    · rfl
  · rintro e w1 ⟨rfl, hw1⟩
    rw [hall]
    have hat : HsAt w w1 #[mt, mt, mt, mt, mt, mt, mt] := by
      rw [hw1]
      exact ⟨(((Below.refl _ _).alloc (Nat.le_refl _) _).alloc (by simp) _).alloc (by simp; omega) _, by rw [heap_lt _ _ _ (by simp; omega), heap_lt _ _ _ (by simp), heap_eq _ _ _ rfl], by rw [heap_lt _ _ _ (by simp), heap_eq _ _ _ (by simp)]⟩
    clear hw1
    obtain ⟨c0, c1, c2, c3, c4, c5, c6⟩ : w1.cell? ⟨w.heap.size, 0, none⟩ = some mt ∧ w1.cell? ⟨w.heap.size, 1, none⟩ = some mt ∧ w1.cell? ⟨w.heap.size, 2, none⟩ = some mt ∧ w1.cell? ⟨w.heap.size, 3, none⟩ = some mt ∧ w1.cell? ⟨w.heap.size, 4, none⟩ = some mt ∧ w1.cell? ⟨w.heap.size, 5, none⟩ = some mt ∧ w1.cell? ⟨w.heap.size, 6, none⟩ = some mt := ⟨hat.get 0, hat.get 1, hat.get 2, hat.get 3, hat.get 4, hat.get 5, hat.get 6⟩
    obtain ⟨f0, f1, f2, f3, f4, f5, f6⟩ : w1.frozen? ⟨w.heap.size, 0, none⟩ = false ∧ w1.frozen? ⟨w.heap.size, 1, none⟩ = false ∧ w1.frozen? ⟨w.heap.size, 2, none⟩ = false ∧ w1.frozen? ⟨w.heap.size, 3, none⟩ = false ∧ w1.frozen? ⟨w.heap.size, 4, none⟩ = false ∧ w1.frozen? ⟨w.heap.size, 5, none⟩ = false ∧ w1.frozen? ⟨w.heap.size, 6, none⟩ = false := ⟨hat.free 0, hat.free 1, hat.free 2, hat.free 3, hat.free 4, hat.free 5, hat.free 6⟩
    have ce := hat.gete
    have fe := hat.freee
    go_wp2_with fail
    have hat7 : HsAt w (((((((w1.setCell ⟨w.heap.size, 0, none⟩ mt).setCell ⟨w.heap.size, 1, none⟩ mt).setCell ⟨w.heap.size, 2, none⟩ mt).setCell ⟨w.heap.size, 3, none⟩ mt).setCell ⟨w.heap.size, 4, none⟩ mt).setCell ⟨w.heap.size, 5, none⟩ mt).setCell ⟨w.heap.size, 6, none⟩ mt) #[mt, mt, mt, mt, mt, mt, mt] :=
      ((((((hat.set 0 mt).set 1 mt).set 2 mt).set 3 mt).set 4 mt).set 5 mt).set 6 mt
    obtain ⟨W, hW⟩ : ∃ W, W = ((((((w1.setCell ⟨w.heap.size, 0, none⟩ mt).setCell ⟨w.heap.size, 1, none⟩ mt).setCell ⟨w.heap.size, 2, none⟩ mt).setCell ⟨w.heap.size, 3, none⟩ mt).setCell ⟨w.heap.size, 4, none⟩ mt).setCell ⟨w.heap.size, 5, none⟩ mt).setCell ⟨w.heap.size, 6, none⟩ mt := ⟨_, rfl⟩
    rw [← hW] at hat7 ⊢
    clear hW
    exact hat7.done 2 rfl rfl rfl
/-- The first secrets of a handshake. -/
def hsOf (s : List UInt8) : List UInt8 := Sha.hmac (Sha.label early Sha.nDer (Sha.sha []) 32) s
theorem len_hsOf (s : List UInt8) : (hsOf s).length = 32 := Sha.len_hmac _ _
attribute [irreducible] hsOf
theorem behind_early (s : List UInt8) (E : Nat) (w : World) (hx : s.length = 32) (hkon : KonAt w) (he : w.heap[E]? = some (.cells #[.int .i64 0] 26 (0, 0))) :
    Calls Tryd.prog 23 #[.string ⟨early.toArray⟩, .string ⟨s.toArray⟩, .pointer (some ⟨E, 0, none⟩)] w fun e w' => e = .returned (.string ⟨(hsOf s).toArray⟩) ∧ Below w.heap.size w w' := by
  rw [hsOf]; exact behind_any early s E w len_early hx hkon he
set_option maxHeartbeats 4000000 in
set_option maxRecDepth 100000 in
theorem pHandshake_any (s t : List UInt8) (w : World) (h : s.length = 32) (ht : t.length = 32) (hkon : KonAt w) :
    Calls Tryd.prog 14 #[.string ⟨s.toArray⟩, .string ⟨t.toArray⟩] w fun e w' => e = .returned (.tuple #[.agg #[.string ⟨early.toArray⟩, .string ⟨(hsOf s).toArray⟩, mt, .string ⟨(Sha.label (hsOf s) Sha.nChs t 32).toArray⟩, .string ⟨(Sha.label (hsOf s) Sha.nShs t 32).toArray⟩, mt, mt], .int .i64 0]) ∧ Below w.heap.size w w' := by
  have hall : ([s, t].all fun s => s.length == 32) = true := by simp [h, ht]
  have HK := Lib.hid hkon; clear hkon
  have H32 := Lib.hid h; clear h
  have HT := Lib.hid ht; clear ht
  go_enter Tryd.func14, Tryd.ntmps14
  go_wp2_with fail
  refine (whole_any [s, t] (w.heap.size + 1 + 1) _ (by simp) (fun j hj => ?_) 2 rfl).mono ?_
  · rw [cell_new _ _ _ _ _ (by simp)]
    have hj : j < 2 := hj
    obtain rfl | rfl : j = 0 ∨ j = 1 := by omega
    · rfl
    · rfl
  · rintro e w1 ⟨rfl, hw1⟩
    rw [hall]
    have hat1 : HsAt w w1 #[mt, mt, mt, mt, mt, mt, mt] := by
      rw [hw1]
      exact ⟨(((Below.refl _ _).alloc (Nat.le_refl _) _).alloc (by simp) _).alloc (by simp; omega) _, by rw [heap_lt _ _ _ (by simp; omega), heap_lt _ _ _ (by simp), heap_eq _ _ _ rfl], by rw [heap_lt _ _ _ (by simp), heap_eq _ _ _ (by simp)]⟩
    clear hw1
    go_wp2_with fail
    refine (early_any _ (HK.out.below hat1.below)).mono ?_
    rintro e w2 ⟨rfl, hb2⟩
    have hat2 := hat1.step hb2
    have c0 : w2.cell? ⟨w.heap.size, 0, none⟩ = some mt := hat2.get 0
    have f0 := hat2.free 0
    go_wp2_with fail
    have hat3 : HsAt w (w2.setCell ⟨w.heap.size, 0, none⟩ (.string ⟨early.toArray⟩)) #[.string ⟨early.toArray⟩, mt, mt, mt, mt, mt, mt] := hat2.set 0 _
    refine (behind_early s (w.heap.size + 1) _ H32.out (HK.out.below hat3.below) hat3.e).mono ?_
    rintro e w4 ⟨rfl, hb4⟩
    have hat4 := hat3.step hb4
    have c1 : w4.cell? ⟨w.heap.size, 1, none⟩ = some mt := hat4.get 1
    have f1 := hat4.free 1
    clear c0 f0 hb2 hb4
    go_wp2_with fail
    have hat5 : HsAt w (w4.setCell ⟨w.heap.size, 1, none⟩ (.string ⟨(hsOf s).toArray⟩)) #[.string ⟨early.toArray⟩, .string ⟨(hsOf s).toArray⟩, mt, mt, mt, mt, mt] := hat4.set 1 _
    refine (of_S (hsOf s) (w.heap.size + 1) _ hat5.e).mono ?_
    rintro e w6 ⟨sb, rfl, hof6, hb6⟩
    have hat6 := hat5.step hb6
    clear c1 f1 hb6
    go_wp2_with fail
    refine (hof6.call Sha.nChs t 32 (len_hsOf s) (by decide) (by rw [HT.out]; decide) (by decide) (by decide) (HK.out.below hat6.below)).mono ?_
    rintro e w7 ⟨rfl, hb7⟩
    have hat7 := hat6.step hb7
    have hof7 := hof6.below hb7
    go_wp2_with fail
    refine (hof7.call Sha.nShs t 32 (len_hsOf s) (by decide) (by rw [HT.out]; decide) (by decide) (by decide) (HK.out.below hat7.below)).mono ?_
    rintro e w8 ⟨rfl, hb8⟩
    have hat8 := hat7.step hb8
    have c3 : w8.cell? ⟨w.heap.size, 3, none⟩ = some mt := hat8.get 3
    have f3 := hat8.free 3
    have c4 : w8.cell? ⟨w.heap.size, 4, none⟩ = some mt := hat8.get 4
    have f4 := hat8.free 4
    clear hb7 hb8
    go_wp2_with fail
    have hat9 : HsAt w ((w8.setCell ⟨w.heap.size, 3, none⟩ (.string ⟨(Sha.label (hsOf s) Sha.nChs t 32).toArray⟩)).setCell ⟨w.heap.size, 4, none⟩ (.string ⟨(Sha.label (hsOf s) Sha.nShs t 32).toArray⟩)) #[.string ⟨early.toArray⟩, .string ⟨(hsOf s).toArray⟩, mt, .string ⟨(Sha.label (hsOf s) Sha.nChs t 32).toArray⟩, .string ⟨(Sha.label (hsOf s) Sha.nShs t 32).toArray⟩, mt, mt] := (hat8.set 3 _).set 4 _
    obtain ⟨w9, hw9⟩ : ∃ w9, w9 = (w8.setCell ⟨w.heap.size, 3, none⟩ (.string ⟨(Sha.label (hsOf s) Sha.nChs t 32).toArray⟩)).setCell ⟨w.heap.size, 4, none⟩ (.string ⟨(Sha.label (hsOf s) Sha.nShs t 32).toArray⟩) := ⟨_, rfl⟩
    rw [← hw9] at hat9 ⊢
    have ce := hat9.gete
    clear hw9 c3 f3 c4 f4
    obtain ⟨c0, c1, c2, c3, c4, c5, c6⟩ : w9.cell? ⟨w.heap.size, 0, none⟩ = some (.string ⟨early.toArray⟩) ∧ w9.cell? ⟨w.heap.size, 1, none⟩ = some (.string ⟨(hsOf s).toArray⟩) ∧ w9.cell? ⟨w.heap.size, 2, none⟩ = some mt ∧ w9.cell? ⟨w.heap.size, 3, none⟩ = some (.string ⟨(Sha.label (hsOf s) Sha.nChs t 32).toArray⟩) ∧ w9.cell? ⟨w.heap.size, 4, none⟩ = some (.string ⟨(Sha.label (hsOf s) Sha.nShs t 32).toArray⟩) ∧ w9.cell? ⟨w.heap.size, 5, none⟩ = some mt ∧ w9.cell? ⟨w.heap.size, 6, none⟩ = some mt := ⟨hat9.get 0, hat9.get 1, hat9.get 2, hat9.get 3, hat9.get 4, hat9.get 5, hat9.get 6⟩
    obtain ⟨f0, f1, f2, f3, f4, f5, f6⟩ : w9.frozen? ⟨w.heap.size, 0, none⟩ = false ∧ w9.frozen? ⟨w.heap.size, 1, none⟩ = false ∧ w9.frozen? ⟨w.heap.size, 2, none⟩ = false ∧ w9.frozen? ⟨w.heap.size, 3, none⟩ = false ∧ w9.frozen? ⟨w.heap.size, 4, none⟩ = false ∧ w9.frozen? ⟨w.heap.size, 5, none⟩ = false ∧ w9.frozen? ⟨w.heap.size, 6, none⟩ = false := ⟨hat9.free 0, hat9.free 1, hat9.free 2, hat9.free 3, hat9.free 4, hat9.free 5, hat9.free 6⟩
    have fe := hat9.freee
    clear hat1 hat2 hat3 hat4 hat5 hat6 hat7 hat8 hof6 hof7 hall
    have hatZ : HsAt w (((((((w9.setCell ⟨w.heap.size, 0, none⟩ (.string ⟨early.toArray⟩)).setCell ⟨w.heap.size, 1, none⟩ (.string ⟨(hsOf s).toArray⟩)).setCell ⟨w.heap.size, 2, none⟩ mt).setCell ⟨w.heap.size, 3, none⟩ (.string ⟨(Sha.label (hsOf s) Sha.nChs t 32).toArray⟩)).setCell ⟨w.heap.size, 4, none⟩ (.string ⟨(Sha.label (hsOf s) Sha.nShs t 32).toArray⟩)).setCell ⟨w.heap.size, 5, none⟩ mt).setCell ⟨w.heap.size, 6, none⟩ mt) #[.string ⟨early.toArray⟩, .string ⟨(hsOf s).toArray⟩, mt, .string ⟨(Sha.label (hsOf s) Sha.nChs t 32).toArray⟩, .string ⟨(Sha.label (hsOf s) Sha.nShs t 32).toArray⟩, mt, mt] :=
      ((((((hat9.set 0 _).set 1 _).set 2 _).set 3 _).set 4 _).set 5 _).set 6 _
    obtain ⟨W, hW⟩ : ∃ W, W = ((((((w9.setCell ⟨w.heap.size, 0, none⟩ (.string ⟨early.toArray⟩)).setCell ⟨w.heap.size, 1, none⟩ (.string ⟨(hsOf s).toArray⟩)).setCell ⟨w.heap.size, 2, none⟩ mt).setCell ⟨w.heap.size, 3, none⟩ (.string ⟨(Sha.label (hsOf s) Sha.nChs t 32).toArray⟩)).setCell ⟨w.heap.size, 4, none⟩ (.string ⟨(Sha.label (hsOf s) Sha.nShs t 32).toArray⟩)).setCell ⟨w.heap.size, 5, none⟩ mt).setCell ⟨w.heap.size, 6, none⟩ mt := ⟨_, rfl⟩
    rw [← hW] at hatZ
    have HW := Lib.hid hW
    clear hW
    go_region_with fail
    all_goals
      go_wp2_with fail
      have hW := HW.out
      rw [← hW]
      clear hW
      exact hatZ.done_drew 0 rfl rfl rfl
end Go.Proofs.YtdnigbbfiklaoaaDoor
