/- Own rows turned in place: opened, appended onto themselves, cleared, copied. Own work over the guide's laws; no condition. -/
import Derived.Test.YtkkfifhaobjicaaGreatDoorHb35
import Derived.Test.YtkkfifhaobjicaaGreatDoorHb29
import Derived.Lib.SliceRun
import Derived.Lib.Overlaps
import Derived.Lib.AppendZerosOnto
namespace Go.Eng
open Go.RowKit
variable {P : Program} {Q : Exit → Act → World → Prop} {N : Fm} {l : zat} {H : World → Prop} {ops : Array Oper} {rest : List Oper} {w0 : World} {F : Nat → Prop} {m : List Item} {ty : TypeId} {pos : String} {after : Array Edge} {g : Option (Nat × Bool)} {d : Nat}
theorem qqy {α : Type} {φ : α → Prop} {M : α → List Item} (h : ∀ w, Hp w0 F m w → ∃ z, φ z ∧ Hp w0 F (M z) w) (k : ∀ z, φ z → HL P ops Q N rest l (Hp w0 F (M z))) : HL P ops Q N rest l (Hp w0 F m) := by
 unfold HL at *
 intro a w s hw
 obtain ⟨z, hz, h⟩ := h w hw
 exact k z hz a w s h
theorem qpd {c : Code} {α : Type} {φ : α → Prop} {M : α → List Item} (h : ∀ w, Hp w0 F m w → ∃ z, φ z ∧ Hp w0 F (M z) w) (k : ∀ z, φ z → HT P c Q N l (Hp w0 F (M z))) : HT P c Q N l (Hp w0 F m) := by
 unfold HT at *
 intro a w s hw
 obtain ⟨z, hz, h⟩ := h w hw
 exact k z hz a w s h
theorem Hp.cut {w : World} {e : TypeId} {n b c : Nat} {xs : List Value} (hw : Hp w0 F (own e 1 (some (b, c)) n xs :: m) w) : ∃ zs : List Value, zs.length = c - n ∧ Hp w0 F (pt b (.cells (xs ++ zs).toArray e (0, 0)) :: m) w := by
 have h := (hw.item _ (.head _)).1
 obtain ⟨h0, h1, h2, cur, h3, h4, h5⟩ := h
 refine ⟨cur.toList.drop n, by rw [List.length_drop, Array.length_toList, h4, Nat.mul_one], ?_⟩
 have e1 : xs ++ cur.toList.drop n = cur.toList := by
  rw [← h5, Nat.mul_one, List.take_append_drop]
 rw [e1]
 refine hw.imp (fun k hk => ⟨c, by rw [show k = b from hk]⟩) (fun _ => ?_) (zac _ _ _)
 show w.heap[b]? = _
 rw [h3, Array.toArray_toList]
theorem Hp.glue {w : World} {e : TypeId} {n b c : Nat} {xs zs : List Value} (hw : Hp w0 F (pt b (.cells (xs ++ zs).toArray e (0, 0)) :: m) w) (hx : xs.length = n) (hz : zs.length = c - n) (hn : n ≤ c) (hc : c ≤ maxLen) : Hp w0 F (own e 1 (some (b, c)) n xs :: m) w := by
 have := hw.ownOf (n := n) (c := c) (sz := 1) hn hc (by simp; omega)
 rw [Nat.mul_one, List.take_left' hx] at this
 exact this
theorem qfw {T T' e : TypeId} {x y : Operand} {b n c k c' sz bt : Nat} {a : Addr} {cur news : List Value} (hok : zfj N l (.call ⟨.builtin .append, #[x, y], #[T, T]⟩) d = true) (hx : evO l x = some (.slice (some ⟨b, 0, none⟩) n c)) (hy : evO l y = some (.slice (some a) k c'))
  (hT : zka P T = some e) (hi : qbn P e = some (1, bt, sz)) (hl : news.length = k) (h1 : zbz news = true) (hroom : n + k ≤ c) (hcl : cur.length = c)
  (hnews : ∀ w, Hp w0 F (pt b (.cells cur.toArray e (0, 0)) :: m) w → ∀ (j : Nat) (v : Value), news[j]? = some v → w.cell? (a.add j) = some v) :
  HO P ⟨some d, .call ⟨.builtin .append, #[x, y], #[T, T]⟩, T', pos, after, g⟩ Q N l (Hp w0 F (pt b (.cells cur.toArray e (0, 0)) :: m)) (α := Unit) (fun _ => (d, .slice (some ⟨b, 0, none⟩) (n + k) c) :: l) (fun _ => Hp w0 F (pt b (.cells (put cur n news).toArray e (0, 0)) :: m)) :=
 zhr (val := fun _ => .slice (some ⟨b, 0, none⟩) (n + k) c) hok (fun w hw => by
  obtain ⟨i, z, h1', h2, h3, h4, h5⟩ := zmb hi
  have hr := run_append_room (P := P) w T T' e i (zbm hT) h1' b n c cur.toArray (hw.get (by simp)) a k c' news (by rw [h2, Nat.mul_one]; exact hl) (hnews w hw) (za4.1 h1) hroom (by rw [h2, Nat.mul_one, hl, List.size_toArray, hcl]; exact hroom)
  rw [h2, Nat.mul_one] at hr
  refine ⟨(), _, ?_, hw.setRow _⟩
  simp only [execOp, resolve, invoke, builtin]
  simp [zax hx, zax hy, hr, put])
theorem qaa {T T' e : TypeId} {x : Operand} {b o n c bt : Nat} {cur : List Value} {z : Value} (hok : (zg7 (.call ⟨.builtin .clear, #[x], #[T]⟩) && zem l (.call ⟨.builtin .clear, #[x], #[T]⟩)) = true) (hx : evO l x = some (.slice (some ⟨b, o, none⟩) n c))
  (hT : zka P T = some e) (hi : zqb P e = some (1, bt, z)) (hz : z.cells = #[z]) (h1 : z.oneCell' = true) (hn : 0 < n) (hfit : o + n ≤ cur.length) :
  HO P ⟨none, .call ⟨.builtin .clear, #[x], #[T]⟩, T', pos, after, g⟩ Q N l (Hp w0 F (pt b (.cells cur.toArray e (0, 0)) :: m)) (α := Unit) (fun _ => l) (fun _ => Hp w0 F (pt b (.cells (put cur o (List.replicate n z)).toArray e (0, 0)) :: m)) :=
 qo2 (val := fun _ => .tuple #[]) hok (fun w hw => by
  obtain ⟨i, h1', h2, h3, h4⟩ := zhj hi
  have hzc : (Builtin.zeroCells z.cells n).toList = List.replicate n z := by
   rw [hz]
   simp [Builtin.zeroCells]
   apply List.ext_getElem
   ·simp
   ·intro i h1 h2
    simp [Nat.mod_one]
  have hst := run_storeCells_at P b o e (List.replicate n z) 0 cur.toArray w (hw.get (by simp)) (by simpa using hfit) (by intro v hv; rw [List.eq_of_mem_replicate hv]; exact h1)
  simp only [Nat.add_zero] at hst
  obtain ⟨k, rfl⟩ : ∃ k, n = k + 1 := ⟨n - 1, by omega⟩
  refine ⟨(), _, ?_, hw.setRow _⟩
  simp only [execOp, resolve, invoke, builtin]
  simp [zax hx, Builtin.clear_, run_underlying (zbm hT), zeroValue, typeInfo, h1', h4, hzc, hst, put])
theorem qox {T e : TypeId} {x y z u : Operand} {a : Option Addr} {n c sz : Nat} {k k' k2 : IntKind} {p q r : Int} {i j mx : Nat} [h : NatOf p i] [h' : NatOf q j] [h2 : NatOf r mx] (hx : evO l x = some (.slice a n c)) (hy : evO l y = some (.int k p)) (hz : evO l z = some (.int k' q)) (hu' : evO l u = some (.int k2 r)) (hT : zka P T = some e) (he : zc1 P e = some sz) (hi : i ≤ j ∧ j ≤ mx ∧ mx ≤ c) :
  OV P (.slice T x (some y) (some z) (some u)) ty l H (.slice (zqr a (decide (mx = i)) (i * sz)) (j - i) (mx - i)) := ov fun _ _ _ w _ => by
 obtain rfl := h.eq; obtain rfl := h'.eq; obtain rfl := h2.eq
 have hu := zbm hT
 have hu2 : P.underlying T = some (.slice (P.elem T)) := by rw [hu]; simp [Program.elem, hu]
 have he' : P.elem T = e := by simp [Program.elem, hu]
 obtain ⟨r, hq, hqs⟩ := zbp he
 have h := run_slice_lhm (P := P) w T a n c hu2 k k' k2 i j mx (by omega) (by omega) (by omega) (by omega)
 have hzz : (sizeOf (P.elem T)).run P w = .ok sz w := by rw [he']; simp [sizeOf, typeInfo, hq, hqs]
 simp only [execOp, zax hx, Option.map_some, zax hy, zax hz, zax hu', Sem.run_bind, run_sliceAt_slice w T _ _ _ _ hu2, h, hzz, Result.andThen_ok, Int.toNat_natCast, sliced, zqr]
 simp [Sem.run_pure]
theorem qj0 {f : FuncId} {fn : Func} {E : Array Value → Sem Value} {xs : List Operand} {tys : Array TypeId} {vs : List Value} {v : Value} (hf : P.funcs[f]? = some fn) (hname : (fn.name == "runtime.NumGoroutine") = false) (hb : fn.body.isNone = true) (hn : Extern.findNext fn = none) (he : Extern.find fn = some E)
  (hx : evs l xs = some vs) (hr : ∀ w, H w → (E vs.toArray).run P w = .ok v w) : OV P (.call ⟨.value (.func f), xs.toArray, tys⟩) ty l H v := ov fun _ _ _ w hw => by
 simp only [execOp, resolve, Deferred.ofValue, ev, List.map_toArray, zhz hx]
 simp [invoke, run_callFunc_extern hf hname hb hn he, hr w hw]
theorem zf7 {z : Value} (hz : z.cells = #[z]) (n : Nat) : Builtin.zeroCells z.cells n = (List.replicate n z).toArray := by
 apply Array.ext'
 rw [hz]
 simp [Builtin.zeroCells]
 apply List.ext_getElem
 ·simp
 ·intro i h1 h2
  simp [Nat.mod_one]
theorem zz9 {T Tn T' e : TypeId} {x y : Operand} {base : Option Addr} {n c k bt : Nat} {z : Value} {kq kn : IntKind} {i : Int} [h : NatOf i k] {olds : List Value} (hok : zfj N l (.call ⟨.builtin .append, #[x, y], #[T, Tn]⟩) d = true) (hx : evO l x = some (.slice base n c)) (hy : evO l y = some (.int kq i))
  (hT : zka P T = some e) (hTn : P.underlying Tn = some (.int kn)) (hi : zqb P e = some (1, bt, z)) (hz : z.cells = #[z]) (h0 : 0 < k) (hg : c < n + k) (hs : (n + k) * (bt + 1) ≤ 140737488355328) (hol : olds.length = n) (hb : base = none → n = 0) (hsrc : ∀ w, Hp w0 F m w → Rd w base olds) :
  HO P ⟨some d, .call ⟨.builtin .append, #[x, y], #[T, Tn]⟩, T', pos, after, g⟩ Q N l (Hp w0 F m) (α := { p : Nat × Nat // w0.heap.size ≤ p.1 ∧ n + k ≤ p.2 }) (fun p => (d, .slice (some ⟨p.1.1, 0, none⟩) (n + k) p.1.2) :: l) (fun p => Hp w0 F (own e 1 (some p.1) (n + k) (olds ++ List.replicate k z) :: m)) := by
 obtain rfl := h.eq
 refine zhr (val := fun p : { p : Nat × Nat // w0.heap.size ≤ p.1 ∧ n + k ≤ p.2 } => .slice (some ⟨p.1.1, 0, none⟩) (n + k) p.1.2) hok (fun w hw => ?_)
 obtain ⟨i, h1', h2, h3, h4⟩ := zhj hi
 have hle : (n + k) * i.bytes + (n + k) ≤ 140737488355328 := by rw [h3]; rwa [Nat.mul_add, Nat.mul_one] at hs
 have hkb : k * i.bytes ≤ (n + k) * i.bytes := Nat.mul_le_mul_right _ (by omega)
 have hold : (Builtin.firstCells i.size n (.slice base n c)).run P w.drew = .ok olds.toArray w.drew := by
  rw [h2]
  cases base with
  | none =>
   obtain rfl : n = 0 := hb rfl
   obtain rfl : olds = [] := List.eq_nil_of_length_eq_zero hol
   exact run_firstCells_none w.drew 1 0 0 c
  | some a =>
   refine run_firstCells_some w.drew 1 n a n c olds (by omega) fun j v hj => ?_
   rcases hsrc w hw with e | ⟨b', off', e, hc⟩
   ·rw [e] at hj; cases hj
   ·cases e
    rw [zc8]
    exact hc j v hj
 have hr := Lib.run_append_grow_zeros (P := P) w T Tn T' e i z kq kn (zbm hT) hTn h1' h4 base n c olds hold k h0 (by omega) hg (by omega) (by omega) (growslice_fits (by omega) (by omega))
 have hge := grownCap_ge w (n + k) c e
 have hnew : (own e 1 (some (w.drew.heap.size, grownCap w (n + k) c e)) (n + k) (olds ++ List.replicate k z)).prop (w.drew.alloc (.cells (olds.toArray ++ Builtin.zeroCells z.cells k ++ Builtin.zeroCells z.cells (grownCap w (n + k) c e - (n + k))) e)) := by
  refine ⟨by simp [hol], hge, grownCap_le_maxLen w (n + k) c e (by unfold maxLen; omega), _, heap_alloc_new w.drew _, ?_, ?_⟩
  ·rw [zf7 hz, zf7 hz]
   simp [hol]
   omega
  ·rw [zf7 hz, zf7 hz]
   simp only [Array.toList_append, List.append_assoc, Nat.mul_one]
   rw [← List.append_assoc, List.take_left' (by simp [hol])]
 refine ⟨⟨(w.heap.size, grownCap w (n + k) c e), hw.fr.size, hge⟩, _, ?_, (hw.drew).newOwn (w := w.drew) hnew⟩
 simp only [execOp, resolve, invoke, builtin]
 simp [zax hx, zax hy, hr]
theorem qcc {e : TypeId} {sz : Nat} (he : zc1 P e = some sz) (w : World) : (Go.sizeOf e).run P w = .ok sz w := by
 obtain ⟨q, hq, hqs⟩ := zbp he
 simp [Go.sizeOf, typeInfo, hq, hqs]
theorem zjs {tS tR e : TypeId} {vb b j la ca lb cb : Nat} {x : Value} {cur : List Value} {w : World} (ht : zka P tS = some e) (he : zc1 P e = some 1) (hA : (own e 1 (some (vb, 1)) 1 [x]).prop w) (hB : w.heap[b]? = some (.cells cur.toArray e (0, 0))) (hne : vb ≠ b) (h0 : cur ≠ []) :
  (Extern.SlicesOverlaps.overlaps #[tS, tS] #[tR] #[.slice (some ⟨vb, 0, none⟩) la ca, .slice (some ⟨b, j, none⟩) lb cb]).run P w = .ok (.bool false) w := by
 obtain ⟨-, -, -, c2, h3, h4, -⟩ := hA
 refine Lib.run_overlaps_apart w tS tR e (zbm ht) 1 (qcc he) ⟨vb, 0, none⟩ ⟨b, j, none⟩ la ca lb cb hne e e c2.size cur.length ?_ ?_ ?_ ?_ ?_
 ·simp [World.shape?, h3]
 ·simp [World.shape?, hB]
 ·simpa using h0
 ·simp [World.frozen?, h3]
 ·simp [World.frozen?, h3]
theorem zqz {w : World} {b i : Nat} {cur cs : List Value} {E : TypeId} (h : w.heap[b]? = some (.cells cur.toArray E (0, 0))) (hc : ∀ (j : Nat) v, cs[j]? = some v → cur[i + j]? = some v) : Rd w (some ⟨b, i, none⟩) cs :=
 Rd.mk fun j v hv => by
  have := za7 h (i + j) v (hc j v hv)
  rwa [Nat.zero_add] at this
theorem zu7 {A B zs : List Value} {z x : Value} (hB : B ≠ []) : put (put (A ++ B ++ z :: zs) (A.length + 1) B) A.length [x] = A ++ x :: B ++ zs := by
 obtain ⟨b, B', rfl⟩ := List.exists_cons_of_ne_nil hB
 have e1 : (A ++ b :: B' ++ z :: zs).take (A.length + 1) = A ++ [b] := by
  rw [List.append_assoc, List.take_append, List.take_of_length_le (by omega), show A.length + 1 - A.length = 1 by omega]; rfl
 have e2 : (A ++ b :: B' ++ z :: zs).drop (A.length + 1 + (b :: B').length) = zs := by
  rw [List.drop_append, List.drop_eq_nil_of_le (by simp only [List.length_append, List.length_cons]; omega), List.nil_append]
  simp only [List.length_append, List.length_cons]
  rw [show A.length + 1 + (B'.length + 1) - (A.length + (B'.length + 1)) = 1 by omega]; rfl
 have e3 : put (A ++ b :: B' ++ z :: zs) (A.length + 1) (b :: B') = A ++ ([b] ++ (b :: B') ++ zs) := by
  unfold put; rw [e1, e2]; simp
 rw [e3]
 unfold put
 rw [List.take_left' rfl, List.drop_append, List.drop_eq_nil_of_le (by simp), List.nil_append]
 simp
theorem zz2 {A B Z zs : List Value} {x : Value} (hZ : Z.length = B.length + 1) : put (put (A ++ Z ++ zs) A.length [x]) (A.length + 1) B = A ++ x :: B ++ zs := by
 have e1 : put (A ++ Z ++ zs) A.length [x] = A ++ [x] ++ (Z.drop 1 ++ zs) := by
  unfold put
  rw [List.append_assoc A Z zs, List.take_left' rfl, List.drop_append, List.drop_eq_nil_of_le (by simp), List.nil_append]
  rw [show A.length + [x].length - A.length = 1 by simp, List.drop_append, show 1 - Z.length = 0 by omega]
  rfl
 rw [e1]
 unfold put
 rw [List.take_left' (by simp), List.drop_append, List.drop_eq_nil_of_le (by simp only [List.length_append, List.length_singleton]; omega), List.nil_append]
 rw [List.drop_append, List.drop_eq_nil_of_le (by simp only [List.length_append, List.length_singleton, List.length_drop]; omega), List.nil_append]
 simp only [List.length_append, List.length_drop, List.length_singleton]
 rw [show A.length + 1 + B.length - (A.length + 1) - (Z.length - 1) = 0 by omega]
 simp
theorem qgq {A B zs : List Value} {y z : Value} : put (put (A ++ y :: B ++ zs) A.length B) (A.length + B.length) [z] = A ++ B ++ z :: zs := by
 have hR : ((y :: B).drop B.length).length = 1 := by simp
 have e1 : put (A ++ y :: B ++ zs) A.length B = (A ++ B) ++ ((y :: B).drop B.length ++ zs) := by
  unfold put
  rw [List.append_assoc A (y :: B) zs, List.take_left' rfl, List.drop_append, List.drop_eq_nil_of_le (by omega), List.nil_append]
  rw [show A.length + B.length - A.length = B.length by omega, List.drop_append, show B.length - (y :: B).length = 0 by simp]
  rfl
 rw [e1]
 generalize (y :: B).drop B.length = R at hR
 unfold put
 rw [List.take_left' (by simp), List.drop_append, List.drop_eq_nil_of_le (by simp only [List.length_append, List.length_singleton]; omega), List.nil_append]
 rw [List.drop_append, List.drop_eq_nil_of_le (by simp only [List.length_append, List.length_singleton]; omega), List.nil_append]
 simp only [List.length_append, List.length_singleton]
 rw [hR, show A.length + B.length + 1 - (A.length + B.length) - 1 = 0 by omega]
 simp
/-! ### the tail of a drawn region: several operations behind all others -/
section
variable {S : World → Prop} {t : Nat}
def HE (P : Program) (ops : Array Oper) (Q : Exit → Act → World → Prop) (S : World → Prop) (t : Nat) (N : Fm) (n : Nat) (listed : Array Bool) (l : zat) (H : World → Prop) : Prop :=
 ∀ a w, St N l a → H w → znf P ops (znl Q) S t n listed a w
theorem qqb {n : Nat} {listed : Array Bool} (h : HE P ops Q S t N n listed l H) : HD P ops Q S t N n listed l H := by
 unfold HD
 exact fun _ => h
theorem ql1 (i : Nat) {oi : Oper} {n : Nat} {listed : Array Bool} {α : Type} {l' : α → zat} {H' : α → World → Prop} (hr : Region.ready .any ops listed = [i]) (ht : t ≤ i) (hi0 : nth ops.toList i = some oi) (hg : oi.guard = none)
  (h : HO P oi (znl Q) N l H l' H') (k : ∀ x, HE P ops Q S t N n (listed.setIfInBounds i true) (l' x) (H' x)) : HE P ops Q S t N (n + 1) listed l H := by
 unfold HE HO at *
 intro a w s hw
 have hi := zed hi0
 refine ⟨fun h => (by rw [hr] at h; cases h), fun j hj => ?_⟩
 obtain rfl : j = i := by rw [hr] at hj; simpa using hj
 unfold wpOp
 simp only [hi]
 rw [if_pos (by simp [Region.wanted, hg])]
 exact .inl (And.right <| h a w s hw _ fun x a' w' s' hw' => ⟨fun h => by omega, k x a' w' s' hw'⟩)
theorem qqc {listed : Array Bool} (hr : Region.ready .any ops listed = []) (k : HX Q .normal N l H) : HE P ops Q S t N 0 listed l H := by
 unfold HE HX at *
 exact fun a w s hw => ⟨hr, k a w s hw⟩
def qqr (ops : Array Oper) (L : Array Bool) (t i : Nat) : Bool :=
 let s := fun (l : Array Bool) k => l.setIfInBounds k true
 let r := fun l => Region.ready .any ops l
 Nat.ble t i && (r L == [i] && (r (s L i) == [i + 1] && (r (s (s L i) (i + 1)) == [i + 2] && r (s (s (s L i) (i + 1)) (i + 2)) == [])))
theorem zn0 (i : Nat) {listed : Array Bool} {x z1 y1 y2 d2 f2 c1 c2 b : Nat} {T U1 U2 E t1 t2 t3 : TypeId} {p1 p2 p3 : String} {a1 a2 a3 : Array Edge} {v1 v2 : Value} {cs : Array Value}
  (n1 : nth ops.toList i = some ⟨none, .store U1 (.tmp z1) (.tmp y1), t1, p1, a1, none⟩)
  (n2 : nth ops.toList (i + 1) = some ⟨some d2, .fieldAddr T (.tmp x) f2, t2, p2, a2, none⟩) (n3 : nth ops.toList (i + 2) = some ⟨none, .store U2 (.tmp d2) (.tmp y2), t3, p3, a3, none⟩)
  (hz : get l z1 = some (.pointer (some ⟨b, c1, none⟩))) (hx : get l x = some (.pointer (some ⟨b, 0, none⟩))) (h1 : get l y1 = some v1) (h2 : get l y2 = some v2) (e2 : get l d2 = none)
  (hf2 : zlj P T f2 = some c2) (hU1 : (P.info? U1).map (·.size) = some 1) (hU2 : (P.info? U2).map (·.size) = some 1)
  (u1 : v1.cells = #[v1]) (u2 : v1.oneCell' = true) (u3 : v2.cells = #[v2]) (u4 : v2.oneCell' = true)
  (hq : qqr ops listed t i = true) (hd : Nat.ble (d2 + 1) N.n = true) (hs1 : c1 < cs.size) (hs2 : c2 < cs.size)
  (k : HX Q .normal N l (Hp w0 F (pt b (.cells ((cs.setIfInBounds c1 v1).setIfInBounds c2 v2) E (0, 0)) :: m))) : HD P ops Q S t N 3 listed l (Hp w0 F (pt b (.cells cs E (0, 0)) :: m)) := by
 simp only [qqr, Bool.and_eq_true, beq_iff_eq] at hq
 obtain ⟨q0, q1, q2, q3, q4⟩ := hq
 have hti : t ≤ i := Nat.le_of_ble_eq_true q0
 have ext : ∀ v, ∀ t u, get l t = some u → get ((d2, v) :: l) t = some u := fun v t u h => by
  rw [zbi, if_neg (fun e => by rw [e, h] at e2; cases e2)]
  exact h
 have HS : ∀ {l' : zat} {cs : Array Value} {d y c : Nat} {U : TypeId} {v : Value} {ty : TypeId} {p : String} {a : Array Edge}, get l' d = some (.pointer (some ⟨b, c, none⟩)) → get l' y = some v → (P.info? U).map (·.size) = some 1 → v.cells = #[v] → v.oneCell' = true → c < cs.size →
   HO P ⟨none, .store U (.tmp d) (.tmp y), ty, p, a, none⟩ (znl Q) N l' (Hp w0 F (pt b (.cells cs E (0, 0)) :: m)) (α := Unit) (fun _ => l') (fun _ => Hp w0 F (pt b (.cells (cs.setIfInBounds c v) E (0, 0)) :: m)) := fun hd hy hU hc ho hs =>
  zaj (by simp [zg7, zem, Op.operands, zek, hd, hy]) hd hy hU hc ho hs
 refine qqb ?_
 refine ql1 i q1 hti n1 rfl (HS hz h1 hU1 u1 u2 hs1) fun _ => ?_
 refine ql1 (i + 1) q2 (by omega) n2 rfl (qey (by simpa [zfj, zg7, zem, Op.operands, zek, hx] using hd) (zdi hx hf2)) fun _ => ?_
 refine ql1 (i + 2) q3 (by omega) n3 rfl (HS (by rw [zbi, if_pos rfl]) (ext _ _ _ h2) hU2 u3 u4 (by rw [Array.size_setIfInBounds]; exact hs2)) fun _ => ?_
 refine qqc q4 ?_
 unfold HX at *
 exact fun a w s hw => k a w ⟨s.size, s.defers, fun t v h => s.slot t v (ext _ t v h)⟩ hw
def qnw (ops : Array Oper) (L : Array Bool) (t i1 i2 i3 i4 : Nat) : Bool :=
 let s := fun (l : Array Bool) k => l.setIfInBounds k true
 let r := fun l => Region.ready .any ops l
 (Nat.blt i1 t && (Nat.blt i2 t && (Nat.blt i3 t && (Nat.blt i4 t && (!Nat.beq i1 i3 && !Nat.beq i2 i3))))) && (r L == [i1, i3] && (r (s L i1) == [i2, i3] && (r (s (s L i1) i2) == [i3] && (r (s (s L i1) i3) == [i2] && (r (s L i3) == [i1] && r (s (s (s L i1) i2) i3) == [i4])))))
theorem qjf (i1 i2 i3 i4 : Nat) {o1 o2 o3 o4 : Oper} {n : Nat} {listed : Array Bool} {α1 α2 α3 α4 : Type} {A B rest : List Item} {X1 : α1 → Item} {X2 : α3 → Item} {A' : α2 → List Item} {B' : α4 → List Item} {d1 d2 d3 d4 : Nat} {u1 : α1 → Value} {u2 : α2 → Value} {u3 : α3 → Value} {u4 : α4 → Value}
  (hq : qnw ops listed t i1 i2 i3 i4 = true) (n1 : nth ops.toList i1 = some o1) (n2 : nth ops.toList i2 = some o2) (n3 : nth ops.toList i3 = some o3) (n4 : nth ops.toList i4 = some o4) (g1 : o1.guard = none) (g2 : o2.guard = none) (g3 : o3.guard = none) (g4 : o4.guard = none)
  (e1 : get l d1 = none) (e2 : get l d2 = none) (e3 : get l d3 = none) (e4 : get l d4 = none) (hne : (!Nat.beq d1 d2 && (!Nat.beq d1 d3 && (!Nat.beq d1 d4 && (!Nat.beq d2 d3 && (!Nat.beq d2 d4 && !Nat.beq d3 d4))))) = true) (hS : ∀ w, Hp w0 F rest w → S w)
  (s1 : ∀ l' m', (∀ t u, get l t = some u → get l' t = some u) → HO P o1 (znl Q) N l' (Hp w0 F m') (fun a => (d1, u1 a) :: l') (fun a => Hp w0 F (X1 a :: m')))
  (s2 : ∀ a l' m', (∀ t u, get l t = some u → get l' t = some u) → get l' d1 = some (u1 a) → HO P o2 (znl Q) N l' (Hp w0 F (A ++ X1 a :: m')) (fun b => (d2, u2 b) :: l') (fun b => Hp w0 F (A' b ++ m')))
  (s3 : ∀ l' m', (∀ t u, get l t = some u → get l' t = some u) → HO P o3 (znl Q) N l' (Hp w0 F m') (fun a => (d3, u3 a) :: l') (fun a => Hp w0 F (X2 a :: m')))
  (s4 : ∀ c l' m', (∀ t u, get l t = some u → get l' t = some u) → get l' d3 = some (u3 c) → HO P o4 (znl Q) N l' (Hp w0 F (B ++ X2 c :: m')) (fun b => (d4, u4 b) :: l') (fun b => Hp w0 F (B' b ++ m')))
  (k : ∀ b d, HD P ops Q S t N n ((((listed.setIfInBounds i1 true).setIfInBounds i2 true).setIfInBounds i3 true).setIfInBounds i4 true) ((d4, u4 d) :: (d2, u2 b) :: l) (Hp w0 F (A' b ++ (B' d ++ rest)))) : HD P ops Q S t N (n + 4) listed l (Hp w0 F (A ++ (B ++ rest))) := by
 simp only [qnw, Bool.and_eq_true, beq_iff_eq, Bool.not_eq_true'] at hq
 obtain ⟨⟨b1, b2, b3, b4, b5, b6⟩, q1, q2, q3, q4, q5, q6⟩ := hq
 have b1 := Nat.le_of_ble_eq_true b1
 have b2 := Nat.le_of_ble_eq_true b2
 have b3 := Nat.le_of_ble_eq_true b3
 have b4 := Nat.le_of_ble_eq_true b4
 have nb : ∀ {a b : Nat}, Nat.beq a b = false → a ≠ b := fun h e => by rw [e, Nat.beq_refl] at h; cases h
 simp only [Bool.and_eq_true, Bool.not_eq_true'] at hne
 obtain ⟨f12, f13, f14, f23, f24, f34⟩ := hne
 have f12 := nb f12
 have f13 := nb f13
 have f14 := nb f14
 have f23 := nb f23
 have f24 := nb f24
 have f34 := nb f34
 have c13 : (listed.setIfInBounds i3 true).setIfInBounds i1 true = (listed.setIfInBounds i1 true).setIfInBounds i3 true := Array.setIfInBounds_comm _ _ (Ne.symm (nb b5))
 have c23 : ∀ L : Array Bool, (L.setIfInBounds i3 true).setIfInBounds i2 true = (L.setIfInBounds i2 true).setIfInBounds i3 true := fun L => Array.setIfInBounds_comm _ _ (Ne.symm (nb b6))
 have ext : ∀ {l' : zat} {d : Nat} (v : Value), (∀ t u, get l t = some u → get l' t = some u) → get l d = none → ∀ t u, get l t = some u → get ((d, v) :: l') t = some u := fun v hl hd t u h => by
  rw [zbi, if_neg (fun e => by rw [e, h] at hd; cases hd)]
  exact hl t u h
 have x0 : ∀ t u, get l t = some u → get l t = some u := fun _ _ h => h
 have zz : ∀ (d : Nat) (v : Value) (l' : zat), get ((d, v) :: l') d = some v := fun d v l' => by rw [zbi, if_pos rfl]
 have zn : ∀ {d e : Nat} {v u : Value} {l' : zat}, e ≠ d → get l' d = some u → get ((e, v) :: l') d = some u := fun hne h => by rw [zbi, if_neg hne]; exact h
 have sub : ∀ {M : List Item}, rest.Sublist M → ∀ w, Hp w0 F M w → S w := fun hs w hw => hS w (hw.sub hs)
 have hr : ∀ (M : List Item), rest.Sublist (M ++ rest) := fun M => List.sublist_append_right _ _
 have fin : ∀ {l' : zat} {b : α2} {d : α4} {L : Array Bool}, L = (((listed.setIfInBounds i1 true).setIfInBounds i2 true).setIfInBounds i3 true) → (∀ t u, get l t = some u → get l' t = some u) → get l' d2 = some (u2 b) → HD P ops Q S t N n (L.setIfInBounds i4 true) ((d4, u4 d) :: l') (Hp w0 F (B' d ++ (A' b ++ rest))) := fun {l'} {b} {d} {L} hL hl h2 => by
  subst hL
  refine zh6 (List.perm_append_comm_assoc _ _ _) ?_
  have := k b d
  unfold HD at this ⊢
  refine fun inv a w s hw => this inv a w ⟨s.size, s.defers, fun t v h => ?_⟩ hw
  rw [zbi] at h
  by_cases e : d4 = t
  ·rw [if_pos e] at h
   exact s.slot t v (by rw [zbi, if_pos e]; exact h)
  ·rw [if_neg e, zbi] at h
   refine s.slot t v ?_
   rw [zbi, if_neg e]
   by_cases e2 : d2 = t
   ·rw [if_pos e2] at h
    rw [← e2, h2]; exact h
   ·rw [if_neg e2] at h
    exact hl t v h
 have st4 : ∀ {l' : zat} {b : α2} {c : α3} {M : List Item} {L : Array Bool}, L = (((listed.setIfInBounds i1 true).setIfInBounds i2 true).setIfInBounds i3 true) → (∀ t u, get l t = some u → get l' t = some u) → get l' d2 = some (u2 b) → get l' d3 = some (u3 c) → M.Perm (B ++ X2 c :: (A' b ++ rest)) → HD P ops Q S t N (n + 1) L l' (Hp w0 F M) := fun {l'} {b} {c} {M} {L} hL hl h2 h3 hp => by
  refine zh6 hp ?_
  refine zau i4 ⟨by rw [hL]; exact q6, b4⟩ n4 (by rw [g4]; rfl) (s4 c l' _ hl h3) (fun d => sub (by rw [← List.append_assoc]; exact hr _)) fun d => ?_
  exact fin hL hl h2
 refine zsl i1 i3 ⟨q1, b1, b3⟩ n1 n3 g1 g3 (s1 l _ x0) (s3 l _ x0) (fun a => sub (by rw [← List.append_assoc, ← List.cons_append]; exact hr _)) (fun c => sub (by rw [← List.append_assoc, ← List.cons_append]; exact hr _)) (fun a => ?_) (fun c => ?_)
 ·refine zh6 (m' := A ++ X1 a :: (B ++ rest)) List.perm_middle.symm ?_
  refine zsl i2 i3 ⟨q2, b2, b3⟩ n2 n3 g2 g3 (s2 a _ _ (ext _ x0 e1) (zz _ _ _)) (s3 _ _ (ext _ x0 e1)) (fun b => sub (by rw [← List.append_assoc]; exact hr _)) (fun c => sub (.cons _ (((hr B).cons _).trans (List.sublist_append_right _ _)))) (fun b => ?_) (fun c => ?_)
  ·refine zau i3 ⟨q3, b3⟩ n3 (by rw [g3]; rfl) (s3 _ _ (ext _ (ext _ x0 e1) e2)) (fun c => sub (by rw [← List.append_assoc, ← List.cons_append]; exact hr _)) fun c => ?_
   refine st4 rfl (ext _ (ext _ (ext _ x0 e1) e2) e3) (zn (Ne.symm f23) (zz _ _ _)) (zz _ _ _) ?_
   refine (List.Perm.cons _ (List.perm_append_comm_assoc _ _ _)).trans List.perm_middle.symm
  ·refine zh6 (m' := A ++ X1 a :: (X2 c :: (B ++ rest))) ?_ ?_
   ·refine List.Perm.trans ?_ (List.Perm.append_left A (List.Perm.swap _ _ _))
    exact List.perm_middle.symm
   refine zau i2 ⟨q4, b2⟩ n2 (by rw [g2]; rfl) (s2 a _ _ (ext _ (ext _ x0 e1) e3) (zn (Ne.symm f13) (zz _ _ _))) (fun b => sub (by rw [← List.cons_append, ← List.append_assoc]; exact hr _)) fun b => ?_
   refine st4 (c23 _) (ext _ (ext _ (ext _ x0 e1) e3) e2) (zz _ _ _) (zn f23 (zz _ _ _)) ?_
   refine (List.perm_middle).trans ?_
   refine (List.Perm.cons _ (List.perm_append_comm_assoc _ _ _)).trans List.perm_middle.symm
 ·refine zau i1 ⟨q5, b1⟩ n1 (by rw [g1]; rfl) (s1 _ _ (ext _ x0 e3)) (fun a => sub (by rw [← List.append_assoc, ← List.cons_append, ← List.cons_append]; exact hr _)) fun a => ?_
  rw [c13]
  refine zh6 (m' := A ++ X1 a :: (X2 c :: (B ++ rest))) ?_ ?_
  ·refine (List.Perm.swap _ _ _).trans ?_
   refine List.Perm.trans ?_ (List.Perm.append_left A (List.Perm.swap _ _ _))
   refine List.Perm.trans ?_ List.perm_middle.symm
   exact List.Perm.cons _ List.perm_middle.symm
  refine zau i2 ⟨q4, b2⟩ n2 (by rw [g2]; rfl) (s2 a _ _ (ext _ (ext _ x0 e3) e1) (zz _ _ _)) (fun b => sub (by rw [← List.cons_append, ← List.append_assoc]; exact hr _)) fun b => ?_
  refine st4 (c23 _) (ext _ (ext _ (ext _ x0 e3) e1) e2) (zz _ _ _) (zn f23 (zn f13 (zz _ _ _))) ?_
  refine (List.perm_middle).trans ?_
  refine (List.Perm.cons _ (List.perm_append_comm_assoc _ _ _)).trans List.perm_middle.symm
def qjz (ops : Array Oper) (L : Array Bool) (t i1 i2 i3 i4 p : Nat) : Bool :=
 let s := fun (l : Array Bool) k => l.setIfInBounds k true
 let r := fun l => Region.ready .any ops l
 (Nat.blt i1 t && (Nat.blt i2 t && (Nat.blt i3 t && (Nat.blt i4 t && (!Nat.beq i1 i3 && !Nat.beq i2 i3))))) && (r L == [i1, i3] && (r (s L i1) == [i2, i3] && (r (s (s (s L i1) i2) p) == [i3] && (r (s (s L i1) i3) == [i2] && (r (s L i3) == [i1] && (r (s (s (s (s L i1) i2) p) i3) == [i4] && (zqj ops t (s (s L i1) i2) p && (zqj ops t (s (s (s L i1) i2) i3) p && !Nat.beq i3 p))))))))
theorem qdu (i1 i2 i3 i4 p : Nat) {o1 o2 o3 o4 : Oper} {n : Nat} {listed : Array Bool} {α1 α2 α3 α4 : Type} {A B rest : List Item} {X1 : α1 → Item} {X2 : α3 → Item} {A' : α2 → List Item} {B' : α4 → List Item} {d1 d2 d3 d4 dp x f c pb : Nat} {T tp : TypeId} {pp : String} {pa : Array Edge} {u1 : α1 → Value} {u2 : α2 → Value} {u3 : α3 → Value} {u4 : α4 → Value}
  (hq : qjz ops listed t i1 i2 i3 i4 p = true) (np : nth ops.toList p = some ⟨some dp, .fieldAddr T (.tmp x) f, tp, pp, pa, none⟩) (hpx : get l x = some (.pointer (some ⟨pb, 0, none⟩))) (hpf : zlj P T f = some c) (ep : get l dp = none) (hdp : Nat.ble (dp + 1) N.n = true) (hnp : (!Nat.beq dp d1 && (!Nat.beq dp d2 && (!Nat.beq dp d3 && !Nat.beq dp d4))) = true) (n1 : nth ops.toList i1 = some o1) (n2 : nth ops.toList i2 = some o2) (n3 : nth ops.toList i3 = some o3) (n4 : nth ops.toList i4 = some o4) (g1 : o1.guard = none) (g2 : o2.guard = none) (g3 : o3.guard = none) (g4 : o4.guard = none)
  (e1 : get l d1 = none) (e2 : get l d2 = none) (e3 : get l d3 = none) (e4 : get l d4 = none) (hne : (!Nat.beq d1 d2 && (!Nat.beq d1 d3 && (!Nat.beq d1 d4 && (!Nat.beq d2 d3 && (!Nat.beq d2 d4 && !Nat.beq d3 d4))))) = true) (hS : ∀ w, Hp w0 F rest w → S w)
  (s1 : ∀ l' m', (∀ t u, get l t = some u → get l' t = some u) → HO P o1 (znl Q) N l' (Hp w0 F m') (fun a => (d1, u1 a) :: l') (fun a => Hp w0 F (X1 a :: m')))
  (s2 : ∀ a l' m', (∀ t u, get l t = some u → get l' t = some u) → get l' d1 = some (u1 a) → HO P o2 (znl Q) N l' (Hp w0 F (A ++ X1 a :: m')) (fun b => (d2, u2 b) :: l') (fun b => Hp w0 F (A' b ++ m')))
  (s3 : ∀ l' m', (∀ t u, get l t = some u → get l' t = some u) → HO P o3 (znl Q) N l' (Hp w0 F m') (fun a => (d3, u3 a) :: l') (fun a => Hp w0 F (X2 a :: m')))
  (s4 : ∀ c l' m', (∀ t u, get l t = some u → get l' t = some u) → get l' d3 = some (u3 c) → HO P o4 (znl Q) N l' (Hp w0 F (B ++ X2 c :: m')) (fun b => (d4, u4 b) :: l') (fun b => Hp w0 F (B' b ++ m')))
  (k : ∀ b d, HD P ops Q S t N n (((((listed.setIfInBounds i1 true).setIfInBounds i2 true).setIfInBounds p true).setIfInBounds i3 true).setIfInBounds i4 true) ((d4, u4 d) :: (dp, .pointer (some ⟨pb, c, none⟩)) :: (d2, u2 b) :: l) (Hp w0 F (A' b ++ (B' d ++ rest)))) : HD P ops Q S t N (n + 5) listed l (Hp w0 F (A ++ (B ++ rest))) := by
 simp only [qjz, Bool.and_eq_true, beq_iff_eq, Bool.not_eq_true'] at hq
 obtain ⟨⟨b1, b2, b3, b4, b5, b6⟩, q1, q2, q3, q4, q5, q6, q7, q8, b7⟩ := hq
 have b1 := Nat.le_of_ble_eq_true b1
 have b2 := Nat.le_of_ble_eq_true b2
 have b3 := Nat.le_of_ble_eq_true b3
 have b4 := Nat.le_of_ble_eq_true b4
 have nb : ∀ {a b : Nat}, Nat.beq a b = false → a ≠ b := fun h e => by rw [e, Nat.beq_refl] at h; cases h
 simp only [Bool.and_eq_true, Bool.not_eq_true'] at hne
 obtain ⟨f12, f13, f14, f23, f24, f34⟩ := hne
 have f12 := nb f12
 have f13 := nb f13
 have f14 := nb f14
 have f23 := nb f23
 have f24 := nb f24
 have f34 := nb f34
 simp only [Bool.and_eq_true, Bool.not_eq_true'] at hnp
 obtain ⟨g1', g2', g3', g4'⟩ := hnp
 have g1' := nb g1'
 have g2' := nb g2'
 have g3' := nb g3'
 have g4' := nb g4'
 have c3p : ∀ L : Array Bool, (L.setIfInBounds i3 true).setIfInBounds p true = (L.setIfInBounds p true).setIfInBounds i3 true := fun L => Array.setIfInBounds_comm _ _ (nb b7)
 have c13 : (listed.setIfInBounds i3 true).setIfInBounds i1 true = (listed.setIfInBounds i1 true).setIfInBounds i3 true := Array.setIfInBounds_comm _ _ (Ne.symm (nb b5))
 have c23 : ∀ L : Array Bool, (L.setIfInBounds i3 true).setIfInBounds i2 true = (L.setIfInBounds i2 true).setIfInBounds i3 true := fun L => Array.setIfInBounds_comm _ _ (Ne.symm (nb b6))
 have ext : ∀ {l' : zat} {d : Nat} (v : Value), (∀ t u, get l t = some u → get l' t = some u) → get l d = none → ∀ t u, get l t = some u → get ((d, v) :: l') t = some u := fun v hl hd t u h => by
  rw [zbi, if_neg (fun e => by rw [e, h] at hd; cases hd)]
  exact hl t u h
 have x0 : ∀ t u, get l t = some u → get l t = some u := fun _ _ h => h
 have zz : ∀ (d : Nat) (v : Value) (l' : zat), get ((d, v) :: l') d = some v := fun d v l' => by rw [zbi, if_pos rfl]
 have zn : ∀ {d e : Nat} {v u : Value} {l' : zat}, e ≠ d → get l' d = some u → get ((e, v) :: l') d = some u := fun hne h => by rw [zbi, if_neg hne]; exact h
 have sub : ∀ {M : List Item}, rest.Sublist M → ∀ w, Hp w0 F M w → S w := fun hs w hw => hS w (hw.sub hs)
 have hr : ∀ (M : List Item), rest.Sublist (M ++ rest) := fun M => List.sublist_append_right _ _
 have vp : ∀ {l' : zat} {M : List Item} {L : Array Bool} {n : Nat}, zqj ops t L p = true → (∀ t u, get l t = some u → get l' t = some u) → (∀ w, Hp w0 F M w → S w) → HD P ops Q S t N n (L.setIfInBounds p true) ((dp, .pointer (some ⟨pb, c, none⟩)) :: l') (Hp w0 F M) → HD P ops Q S t N (n + 1) L l' (Hp w0 F M) := fun {l'} {M} {L} {n} hb hl hs hk => by
  have hok : zfj N l' (.fieldAddr T (.tmp x) f) dp = true := by simpa [zfj, zg7, zem, Op.operands, zek, hl _ _ hpx] using hdp
  obtain ⟨hs', hN, hk'⟩ := zeq hok
  have hv : OV P (.fieldAddr T (.tmp x) f) tp l' S (.pointer (some ⟨pb, c, none⟩)) := zdi (x := .tmp x) (hl _ _ hpx) hpf
  unfold OV at hv
  exact zvx hb (zed np) hs (fun a s => .inl ⟨rfl, fun w hw => by rw [s.exec _ hs' hk', zjf _ _ none _ _ _ "" _ #[] _ none]; exact hv none "" #[] w hw⟩) (fun a s => s.put hN _) hk
 have fin : ∀ {l' : zat} {b : α2} {d : α4} {L : Array Bool}, L = ((((listed.setIfInBounds i1 true).setIfInBounds i2 true).setIfInBounds p true).setIfInBounds i3 true) → (∀ t u, get l t = some u → get l' t = some u) → get l' d2 = some (u2 b) → get l' dp = some (.pointer (some ⟨pb, c, none⟩)) → HD P ops Q S t N n (L.setIfInBounds i4 true) ((d4, u4 d) :: l') (Hp w0 F (B' d ++ (A' b ++ rest))) := fun {l'} {b} {d} {L} hL hl h2 h5 => by
  subst hL
  refine zh6 (List.perm_append_comm_assoc _ _ _) ?_
  have := k b d
  unfold HD at this ⊢
  refine fun inv a w s hw => this inv a w ⟨s.size, s.defers, fun t v h => ?_⟩ hw
  rw [zbi] at h
  by_cases e : d4 = t
  ·rw [if_pos e] at h
   exact s.slot t v (by rw [zbi, if_pos e]; exact h)
  ·rw [if_neg e, zbi] at h
   refine s.slot t v ?_
   rw [zbi, if_neg e]
   by_cases e3 : dp = t
   ·rw [if_pos e3] at h
    rw [← e3, h5]; exact h
   ·rw [if_neg e3, zbi] at h
    by_cases e2 : d2 = t
    ·rw [if_pos e2] at h
     rw [← e2, h2]; exact h
    ·rw [if_neg e2] at h
     exact hl t v h
 have st4 : ∀ {l' : zat} {b : α2} {c2 : α3} {M : List Item} {L : Array Bool}, L = ((((listed.setIfInBounds i1 true).setIfInBounds i2 true).setIfInBounds p true).setIfInBounds i3 true) → (∀ t u, get l t = some u → get l' t = some u) → get l' d2 = some (u2 b) → get l' d3 = some (u3 c2) → get l' dp = some (.pointer (some ⟨pb, c, none⟩)) → M.Perm (B ++ X2 c2 :: (A' b ++ rest)) → HD P ops Q S t N (n + 1) L l' (Hp w0 F M) := fun {l'} {b} {c2} {M} {L} hL hl h2 h3 h5 hp => by
  refine zh6 hp ?_
  refine zau i4 ⟨by rw [hL]; exact q6, b4⟩ n4 (by rw [g4]; rfl) (s4 c2 l' _ hl h3) (fun d => sub (by rw [← List.append_assoc]; exact hr _)) fun d => ?_
  exact fin hL hl h2 h5
 refine zsl i1 i3 ⟨q1, b1, b3⟩ n1 n3 g1 g3 (s1 l _ x0) (s3 l _ x0) (fun a => sub (by rw [← List.append_assoc, ← List.cons_append]; exact hr _)) (fun c => sub (by rw [← List.append_assoc, ← List.cons_append]; exact hr _)) (fun a => ?_) (fun c => ?_)
 ·refine zh6 (m' := A ++ X1 a :: (B ++ rest)) List.perm_middle.symm ?_
  refine zsl i2 i3 ⟨q2, b2, b3⟩ n2 n3 g2 g3 (s2 a _ _ (ext _ x0 e1) (zz _ _ _)) (s3 _ _ (ext _ x0 e1)) (fun b => sub (by rw [← List.append_assoc]; exact hr _)) (fun c => sub (.cons _ (((hr B).cons _).trans (List.sublist_append_right _ _)))) (fun b => ?_) (fun c => ?_)
  ·refine vp q7 (ext _ (ext _ x0 e1) e2) (sub (by rw [← List.append_assoc]; exact hr _)) ?_
   refine zau i3 ⟨q3, b3⟩ n3 (by rw [g3]; rfl) (s3 _ _ (ext _ (ext _ (ext _ x0 e1) e2) ep)) (fun c => sub (by rw [← List.append_assoc, ← List.cons_append]; exact hr _)) fun c => ?_
   refine st4 rfl (ext _ (ext _ (ext _ (ext _ x0 e1) e2) ep) e3) (zn (Ne.symm f23) (zn g2' (zz _ _ _))) (zz _ _ _) (zn (Ne.symm g3') (zz _ _ _)) ?_
   refine (List.Perm.cons _ (List.perm_append_comm_assoc _ _ _)).trans List.perm_middle.symm
  ·refine zh6 (m' := A ++ X1 a :: (X2 c :: (B ++ rest))) ?_ ?_
   ·refine List.Perm.trans ?_ (List.Perm.append_left A (List.Perm.swap _ _ _))
    exact List.perm_middle.symm
   refine zau i2 ⟨q4, b2⟩ n2 (by rw [g2]; rfl) (s2 a _ _ (ext _ (ext _ x0 e1) e3) (zn (Ne.symm f13) (zz _ _ _))) (fun b => sub (by rw [← List.cons_append, ← List.append_assoc]; exact hr _)) fun b => ?_
   rw [c23]
   refine vp q8 (ext _ (ext _ (ext _ x0 e1) e3) e2) (sub (by rw [← List.cons_append, ← List.append_assoc]; exact hr _)) ?_
   refine st4 (c3p _) (ext _ (ext _ (ext _ (ext _ x0 e1) e3) e2) ep) (zn g2' (zz _ _ _)) (zn g3' (zn f23 (zz _ _ _))) (zz _ _ _) ?_
   refine (List.perm_middle).trans ?_
   refine (List.Perm.cons _ (List.perm_append_comm_assoc _ _ _)).trans List.perm_middle.symm
 ·refine zau i1 ⟨q5, b1⟩ n1 (by rw [g1]; rfl) (s1 _ _ (ext _ x0 e3)) (fun a => sub (by rw [← List.append_assoc, ← List.cons_append, ← List.cons_append]; exact hr _)) fun a => ?_
  rw [c13]
  refine zh6 (m' := A ++ X1 a :: (X2 c :: (B ++ rest))) ?_ ?_
  ·refine (List.Perm.swap _ _ _).trans ?_
   refine List.Perm.trans ?_ (List.Perm.append_left A (List.Perm.swap _ _ _))
   refine List.Perm.trans ?_ List.perm_middle.symm
   exact List.Perm.cons _ List.perm_middle.symm
  refine zau i2 ⟨q4, b2⟩ n2 (by rw [g2]; rfl) (s2 a _ _ (ext _ (ext _ x0 e3) e1) (zz _ _ _)) (fun b => sub (by rw [← List.cons_append, ← List.append_assoc]; exact hr _)) fun b => ?_
  rw [c23]
  refine vp q8 (ext _ (ext _ (ext _ x0 e3) e1) e2) (sub (by rw [← List.cons_append, ← List.append_assoc]; exact hr _)) ?_
  refine st4 (c3p _) (ext _ (ext _ (ext _ (ext _ x0 e3) e1) e2) ep) (zn g2' (zz _ _ _)) (zn g3' (zn f23 (zn f13 (zz _ _ _)))) (zz _ _ _) ?_
  refine (List.perm_middle).trans ?_
  refine (List.Perm.cons _ (List.perm_append_comm_assoc _ _ _)).trans List.perm_middle.symm
end
theorem zza {o : Oper} {α : Type} {l' : α → zat} {M M' : α → List Item} (hs : ∀ x, (M' x).Sublist (M x)) (h : HO P o Q N l H l' (fun x => Hp w0 F (M x))) : HO P o Q N l H l' (fun x => Hp w0 F (M' x)) := by
 unfold HO at *
 exact fun a w s hw K hK => h a w s hw K fun x a' w' s' hw' => hK x a' w' s' (hw'.sub (hs x))
theorem zow (w : World) {t ty e : TypeId} {i : TypeInfo} (ht : P.underlying t = some (.slice e)) (hi : P.info? e = some i) (base : Option Addr) (n c c' : Nat) (hn : n ≤ c) : (Builtin.append_ #[t, t] ty #[.slice base n c, .slice none 0 c']).run P w = .ok (.slice base n c) w := by
 cases base <;> simp [Builtin.append_, run_underlying ht, Go.sizeOf, typeInfo, hi, Builtin.lenOf, Builtin.firstCells, hn, storeCells]
theorem zes {T T' e : TypeId} {x y : Operand} {o : Option (Nat × Nat)} {a : Option Addr} {n k c b : Nat} {xs news : List Value} (hok : zfj N l (.call ⟨.builtin .append, #[x, y], #[T, T]⟩) d = true) (hx : evO l x = some (slV o n)) (hy : evO l y = some (.slice a k c))
  (hT : zka P T = some e) (hi : qbn P e = some (1, b, 1)) (hl : news.length = k) (h0 : a = none → k = 0) (h1 : zbz news = true) (hn : (n + k) * (b + 1) ≤ 140737488355328)
  (hnews : ∀ w, Hp w0 F (own e 1 o n xs :: m) w → Rd w a news) :
  HO P ⟨some d, .call ⟨.builtin .append, #[x, y], #[T, T]⟩, T', pos, after, g⟩ Q N l (Hp w0 F (own e 1 o n xs :: m)) (α := Option (Nat × Nat)) (fun o' => (d, slV o' (n + k)) :: l) (fun o' => Hp w0 F (own e 1 o' (n + k) (xs ++ news) :: m)) := by
 cases a with
 | some a =>
  refine zdj hok hx hy hT hi rfl (by rw [hl, Nat.mul_one]) h1 hn fun w hw j v hj => ?_
  rcases hnews w hw with e | ⟨b', off, e, hc⟩
  ·rw [e] at hj; cases hj
  ·cases e
   rw [zc8]
   exact hc j v hj
 | none =>
  obtain rfl := h0 rfl
  obtain rfl : news = [] := List.eq_nil_of_length_eq_zero hl
  rw [Nat.add_zero, List.append_nil]
  refine zhr (val := fun o' => slV o' n) hok (fun w hw => ⟨o, w, ?_, hw⟩)
  obtain ⟨hv, hc⟩ := zav (hw.item (own e 1 o n xs) (.head _)).1
  obtain ⟨i, z, h1', -⟩ := zmb hi
  have hr := zow (P := P) (ty := T') w (zbm hT) h1' (slA o) n (slC o) c hc
  rw [← hv] at hr
  simp only [execOp, resolve, invoke, builtin]
  simp [zax hx, zax hy, hr]
theorem Hp.own0 {w : World} {e : TypeId} {n b c : Nat} {xs : List Value} (hw : Hp w0 F (own e 1 (some (b, c)) n xs :: m) w) : Hp w0 F (own e 1 (some (b, c)) 0 [] :: m) w :=
 hw.imp (fun _ h => h) (fun ⟨_, h1, h2, cur, h3, h4, _⟩ => ⟨rfl, Nat.zero_le _, h2, cur, h3, h4, by simp⟩) (zab _ _ _ _ _ _)
theorem znk {T e : TypeId} {d x b : Nat} {z v : Value} {g : Option (Nat × Bool)} (hx : get l x = some v) (hd : Nat.ble (d + 1) N.n = true) (hT : zka P T = some e) (hi : zqb P e = some (1, b, z)) (hv : v.cells = #[v]) :
  HO P ⟨some d, .buildSlice T 1 #[(0, .tmp x)], ty, pos, after, g⟩ Q N l (Hp w0 F m) (α := { b : Nat // w0.heap.size ≤ b }) (fun c => (d, .slice (some ⟨c.1, 0, none⟩) 1 1) :: l) (fun c => Hp w0 F (own e 1 (some (c.1, 1)) 1 [v] :: m)) := by
 have hp : zh7 1 l [(0, .tmp x)] = some [(0 * 1, 1, v)] := by simp [zh7, evO, hx]
 have h := zbc (Q := Q) (N := N) (m := m) (w0 := w0) (F := F) (ty := ty) (pos := pos) (after := after) (g := g) (len := 1) (ps := [(0, .tmp x)]) (L := [(0 * 1, 1, v)]) (d := d) (by simpa [zfj, zg7, zem, Op.operands, zek, hx] using hd) hT hi hp (by decide) (by simp [zdh, hv])
 have e1 : zei (zcu z (1 * 1)) [(0 * 1, 1, v)] = [v] := by
  simp [zei, over, zcu, hv]
 rw [e1] at h
 exact h
theorem qi8 {f : FuncId} {d x y z : Nat} {vx vy vz : Value} {tys : Array TypeId} {g : Option (Nat × Bool)} {pre : List Item} {α : Type} {val : α → Value} {φ : α → Prop} {its : α → List Item} (hx : get l x = some vx) (hy : get l y = some vy) (hz : get l z = some vz) (hd : Nat.ble (d + 1) N.n = true) (hb : zb9 P f = true) (hst : ∀ it ∈ pre, it.Stable none')
  (hc : ∀ w, Hp w0 F (pre ++ m) w → (∀ it ∈ pre, za2 it w) → pre.Pairwise Item.Apart → Ct P f #[vx, vy, vz] w (zap pre) val φ its) :
  HO P ⟨some d, .call ⟨.value (.func f), #[.tmp x, .tmp y, .tmp z], tys⟩, ty, pos, after, g⟩ Q N l (Hp w0 F (pre ++ m)) (α := { x : α // φ x }) (fun x => (d, val x.1) :: l) (fun x => Hp w0 F (its x.1 ++ m)) :=
 zba (xs := [.tmp x, .tmp y, .tmp z]) (vs := [vx, vy, vz]) (by simpa [zfj, zg7, zem, Op.operands, Call.operands, zek, hx, hy, hz] using hd) hb (by simp [evs, evO, hx, hy, hz]) hst hc
theorem qbj {f : FuncId} {d x : Nat} {vx : Value} {tys : Array TypeId} {g : Option (Nat × Bool)} {α : Type} {val : α → Value} {φ : α → Prop} {its : α → List Item} (hx : get l x = some vx) (hd : Nat.ble (d + 1) N.n = true) (hb : zb9 P f = true)
  (hc : ∀ w, Hp w0 F m w → Ct P f #[vx] w none' val φ its) :
  HO P ⟨some d, .call ⟨.value (.func f), #[.tmp x], tys⟩, ty, pos, after, g⟩ Q N l (Hp w0 F m) (α := { x : α // φ x }) (fun x => (d, val x.1) :: l) (fun x => Hp w0 F (its x.1 ++ m)) :=
 qck (xs := [.tmp x]) (vs := [vx]) (by simpa [zfj, zg7, zem, Op.operands, Call.operands, zek, hx] using hd) hb (by simp [evs, evO, hx]) hc
end Go.Eng
