/- Rows that a function owns and appends to; what slices read. Own work over the guide's laws; no condition. -/
import Derived.Test.YtkkfifhaobjicaaGreatDoorHb01
import Derived.Laws.OwnMore
import Derived.Laws.Externs
import Derived.Lib.Bytealg
namespace Go.Eng
open Go.RowKit
variable {P : Program} {Q : Exit → Act → World → Prop} {N : Fm} {l : zat} {H : World → Prop} {ops : Array Oper} {rest : List Oper} {w0 : World} {F : Nat → Prop} {m : List Item} {ty : TypeId} {pos : String} {after : Array Edge} {g : Option (Nat × Bool)} {d : Nat}
def slV : Option (Nat × Nat) → Nat → Value
 | none, _ => .slice none 0 0
 | some (b, c), n => .slice (some ⟨b, 0, none⟩) n c
def own (e : TypeId) (sz : Nat) (o : Option (Nat × Nat)) (n : Nat) (xs : List Value) : Item :=
 ⟨fun k => ∃ c, o = some (k, c), fun w => xs.length = n * sz ∧ (match o with
  | none => n = 0
  | some (b, c) => n ≤ c ∧ c ≤ maxLen ∧ ∃ cur : Array Value, w.heap[b]? = some (.cells cur e (0, 0)) ∧ cur.size = c * sz ∧ cur.toList.take (n * sz) = xs)⟩
theorem zab (ro : Nat → Prop) (e : TypeId) (sz : Nat) (o : Option (Nat × Nat)) (n : Nat) (xs : List Value) : (own e sz o n xs).Stable ro := by
 intro w w' h hp
 refine ⟨hp.1, ?_⟩
 match o, hp with
 | none, hp => exact hp.2
 | some (b, c), hp =>
  obtain ⟨h1, h2, cur, h3, h4⟩ := hp.2
  exact ⟨h1, h2, cur, by rw [h b (.inr ⟨c, rfl⟩), h3], h4⟩
theorem ztf {w : World} {e : TypeId} {sz n : Nat} {o : Option (Nat × Nat)} {xs : List Value} (h : (own e sz o n xs).prop w) : w.ownsRow 0 e sz (slV o n) n xs := by
 refine ⟨h.1, ?_⟩
 match o, h with
 | none, h => exact .inl ⟨rfl, h.2⟩
 | some (b, c), h =>
  obtain ⟨h1, h2, cur, h3, h4, h5⟩ := h.2
  exact .inr ⟨b, c, cur, rfl, Nat.zero_le _, h3, h1, h2, h4, h5⟩
def Rd (w : World) (a : Option Addr) (xs : List Value) : Prop := xs = [] ∨ ∃ b off, a = some ⟨b, off, none⟩ ∧ ∀ (j : Nat) (u : Value), xs[j]? = some u → w.cell? ⟨b, off + j, none⟩ = some u
theorem zc8 (b off j : Nat) : (⟨b, off, none⟩ : Addr).add j = ⟨b, off + j, none⟩ := by unfold Addr.add; split <;> simp_all
theorem zbo {w : World} {e : TypeId} {sz n b c : Nat} {xs : List Value} (h : (own e sz (some (b, c)) n xs).prop w) : ∀ (j : Nat) (u : Value), xs[j]? = some u → w.cell? ⟨b, j, none⟩ = some u := by
 intro j u hu
 have := (ztf h).cells (g := b) rfl j u hu
 rwa [zc8, Nat.zero_add] at this
theorem Rd.keep {w : World} {a : Option Addr} {xs : List Value} (h : Rd w0 a xs) (hw : Hp w0 none' m w) : Rd w a xs := by
 rcases h with h | ⟨b, off, h1, h2⟩
 ·exact .inl h
 ·exact .inr ⟨b, off, h1, fun j u hu => hw.old (fun h => h) (h2 j u hu)⟩
theorem Rd.fr {w : World} {a : Option Addr} {xs : List Value} (h : Rd w0 a xs) (hw : Fr none' w0 w) : Rd w a xs := by
 rcases h with h | ⟨b, off, h1, h2⟩
 ·exact .inl h
 ·exact .inr ⟨b, off, h1, fun j u hu => by
   have hv := h2 j u hu
   rw [← hv]
   exact World.cell?_of_block (w := w0) (hw.block b (World.block_lt_of_cell? w0 _ hv) (fun h => h))⟩
def slA : Option (Nat × Nat) → Option Addr
 | none => none
 | some (b, _) => some ⟨b, 0, none⟩
def slC : Option (Nat × Nat) → Nat
 | none => 0
 | some (_, c) => c
theorem zbn {w : World} {e : TypeId} {sz n : Nat} {o : Option (Nat × Nat)} {xs : List Value} (h : (own e sz o n xs).prop w) : Rd w (slA o) xs := by
 match o, h with
 | none, h => exact .inl (List.eq_nil_of_length_eq_zero (by have h1 := h.1; have h2 : n = 0 := h.2; simpa [h2] using h1))
 | some (b, c), h => exact .inr ⟨b, 0, rfl, fun j u hu => by rw [Nat.zero_add]; exact zbo h j u hu⟩
theorem zav {w : World} {e : TypeId} {sz n : Nat} {o : Option (Nat × Nat)} {xs : List Value} (h : (own e sz o n xs).prop w) : slV o n = .slice (slA o) n (slC o) ∧ n ≤ slC o := by
 match o, h with
 | none, h => have h2 : n = 0 := h.2; subst h2; exact ⟨rfl, Nat.le_refl _⟩
 | some (b, c), h => exact ⟨rfl, h.2.1⟩
theorem zj3 {w w' : World} {e : TypeId} {sz n : Nat} {o o' : Option (Nat × Nat)} {xs : List Value} (hp : (own e sz o' n xs).prop w') (hf : Fr (fun k => ∃ c, o = some (k, c)) w w') (hn : ∀ b c, o' = some (b, c) → w.heap.size ≤ b ∨ ∃ c', o = some (b, c')) : Its (fun k => ∃ c, o = some (k, c)) w [own e sz o' n xs] w' := by
 refine ⟨hf, fun it hm => ?_, .cons (fun _ h => by cases h) .nil⟩
 obtain rfl : it = own e sz o' n xs := by simpa using hm
 refine ⟨hp, zab _ _ _ _ _ _, fun k ⟨c, hk⟩ => ⟨?_, fun hlt => ?_⟩⟩
 ·subst hk
  obtain ⟨-, -, cur, h3, -⟩ := hp.2
  exact (Array.getElem?_eq_some_iff.1 h3).1
 ·rcases hn k c hk with h | h
  ·omega
  ·exact h
theorem zj0 {F : Nat → Prop} {w w' : World} (h1 : w'.os = w.os) (h2 : w'.tape = w.tape) (h3 : w'.output = w.output) (h4 : w.heap.size ≤ w'.heap.size) (h5 : ∀ k, k < w.heap.size → ¬ F k → w'.heap[k]? = w.heap[k]?) : Fr F w w' := ⟨h1, h2, h3, h4, h5⟩
theorem qlc {t ty' e : TypeId} {i : TypeInfo} {z : Value} (ht : P.underlying t = some (.slice e)) (hi : P.info? e = some i) (hz : i.zero = some z) (hzs : z.cells.size = i.size) (_hsz : 0 < i.size)
  {w : World} {o : Option (Nat × Nat)} {n : Nat} {xs : List Value} (hown : (own e i.size o n xs).prop w)
  {a : Addr} {k c : Nat} {news : List Value} (hl : news.length = k * i.size) (hnews : ∀ (j : Nat) u, news[j]? = some u → w.cell? (a.add j) = some u) (h1 : ∀ u ∈ news, u.oneCell' = true)
  (h63 : n + k ≤ maxLen) (hbytes : (n + k) * i.bytes ≤ 140737488355328) :
  ∃ o' w', (Builtin.append_ #[t, t] ty' #[slV o n, .slice (some a) k c]).run P w = .ok (slV o' (n + k)) w' ∧ Its (fun k => ∃ c, o = some (k, c)) w [own e i.size o' (n + k) (xs ++ news)] w' := by
 have hrow := ztf hown
 have hlen : (xs ++ news).length = (n + k) * i.size := by rw [List.length_append, hrow.1, hl, Nat.add_mul]
 have grown : ∀ (old : Nat), old < n + k →
   Its (fun k => ∃ c, o = some (k, c)) w [own e i.size (some (w.heap.size, grownCap w (n + k) old e)) (n + k) (xs ++ news)] (w.drew.alloc (.cells (xs.toArray ++ news.toArray ++ Builtin.zeroCells z.cells (grownCap w (n + k) old e - (n + k))) e)) := by
  intro old ho
  have hge := grownCap_ge w (n + k) old e
  refine zj3 ⟨hlen, hge, grownCap_le_maxLen w (n + k) old e h63, _, heap_alloc_new w.drew _, ?_, ?_⟩ (zj0 rfl rfl rfl (by simp) fun j hj _ => Below.heap_alloc w.drew _ j hj) (fun b c' h => .inl (by cases h; exact Nat.le_refl _))
  ·simp only [Array.size_append, List.size_toArray, size_zeroCells, hzs, hrow.1, hl, ← Nat.add_mul]
   congr 1
   omega
  ·simp only [Array.toList_append, List.append_assoc]
   rw [← List.append_assoc, ← hlen]
   exact List.take_left
 by_cases hk : k = 0
 ·subst hk
  obtain rfl : news = [] := List.eq_nil_of_length_eq_zero (by simpa using hl)
  match o, hown with
  | none, hown =>
   obtain rfl : n = 0 := hown.2
   refine ⟨none, w, ?_, ?_⟩
   ·simp [Builtin.append_, run_underlying ht, sizeOf, typeInfo, hi, Builtin.lenOf, Builtin.firstCells, slV, loadCells, loadCellsFrom]
   ·rw [List.append_nil]
    exact zj3 (o := none) hown (.refl _ _) (fun _ _ h => by cases h)
  | some (b, cap), hown =>
   obtain ⟨h2, h3, cur, h4, h5, h6⟩ := hown.2
   have hr := run_append_room (P := P) w t ty' e i ht hi b n cap cur h4 a 0 c [] (by simp) hnews h1 h2 (by rw [h5]; simpa using Nat.mul_le_mul_right _ h2)
   refine ⟨some (b, cap), _, hr, zj3 ⟨by simpa using hown.1, h2, h3, _, setRow_heap w b cur _ e _ h4, ?_, ?_⟩ (zj0 rfl rfl rfl (by simp) fun j _ hj => setRow_other w b j _ (fun e => hj ⟨cap, by rw [e]⟩)) (fun b' c' h => .inr ⟨c', h⟩)⟩
   ·simp [h5]
   ·rw [Nat.add_zero, List.append_nil, List.append_nil]
    simp only [h6]
    rw [List.take_left' (by simpa using hown.1)]
 match o, hown with
 | none, hown =>
  obtain rfl : n = 0 := hown.2
  obtain rfl : xs = [] := List.eq_nil_of_length_eq_zero (by simpa using hrow.1)
  have hr := run_append_nil (P := P) w t ty' e i z ht hi hz a k c news hl hnews (by omega) (by simp only [maxLen] at h63; omega) (by have hb := hbytes; simp only [Nat.zero_add] at hb; omega)
  have hgr := grown 0 (by omega)
  simp only [Nat.zero_add, List.nil_append, Array.empty_append] at hgr ⊢
  exact ⟨some (w.heap.size, grownCap w k 0 e), _, hr, hgr⟩
 | some (b, cap), hown =>
  obtain ⟨h2, h3, cur, h4, h5, h6⟩ := hown.2
  by_cases hroom : n + k ≤ cap
  ·have hfit : n * i.size + news.length ≤ cur.size := by rw [hl, h5, ← Nat.add_mul]; exact Nat.mul_le_mul_right _ hroom
   have hr := run_append_room (P := P) w t ty' e i ht hi b n cap cur h4 a k c news hl hnews h1 hroom hfit
   refine ⟨some (b, cap), _, hr, zj3 ⟨hlen, hroom, h3, _, setRow_heap w b cur _ e _ h4, ?_, ?_⟩ (zj0 rfl rfl rfl (by simp) fun j _ hj => setRow_other w b j _ (fun e => hj ⟨cap, by rw [e]⟩)) (fun b' c' h => .inr ⟨c', h⟩)⟩
   ·simp only [List.size_toArray, List.length_append, List.length_take, List.length_drop, Array.length_toList]
    omega
   ·rw [h6, ← hlen]
    exact List.take_left
  ·have hr := run_append_grow (P := P) w t ty' e i z ht hi hz ⟨b, 0, none⟩ n cap xs hrow.1 (hrow.cells (g := b) rfl) a k c news hl hnews (by omega) (by simp only [maxLen] at h63; omega) (growslice_fits (by omega) hbytes)
   exact ⟨some (w.heap.size, grownCap w (n + k) cap e), _, hr, grown cap (by omega)⟩
def qbn (P : Program) (e : TypeId) : Option (Nat × Nat × Nat) := match P.info? e with | some ⟨_, _, sz, bt, _, _, _, some z, _, _⟩ => some (sz, bt, z.cells.size) | _ => none
theorem zmb {e : TypeId} {s b k : Nat} (h : qbn P e = some (s, b, k)) : ∃ i z, P.info? e = some i ∧ i.size = s ∧ i.bytes = b ∧ i.zero = some z ∧ z.cells.size = k := by
 unfold qbn at h
 split at h
 ·rename_i hi
  simp only [Option.some.injEq, Prod.mk.injEq] at h
  obtain ⟨h1, h2, h3⟩ := h
  exact ⟨_, _, hi, h1, h2, rfl, h3⟩
 ·cases h
theorem zdj {T T' e : TypeId} {x y : Operand} {o : Option (Nat × Nat)} {a : Addr} {n k c sz b : Nat} {xs news : List Value} (hok : zfj N l (.call ⟨.builtin .append, #[x, y], #[T, T]⟩) d = true) (hx : evO l x = some (slV o n)) (hy : evO l y = some (.slice (some a) k c))
  (hT : zka P T = some e) (hi : qbn P e = some (sz, b, sz)) (hsz : Nat.ble 1 sz = true) (hl : news.length = k * sz) (h1 : zbz news = true) (hn : (n + k) * (b + 1) ≤ 140737488355328)
  (hnews : ∀ w, Hp w0 F (own e sz o n xs :: m) w → ∀ (j : Nat) (v : Value), news[j]? = some v → w.cell? (a.add j) = some v) :
  HO P ⟨some d, .call ⟨.builtin .append, #[x, y], #[T, T]⟩, T', pos, after, g⟩ Q N l (Hp w0 F (own e sz o n xs :: m)) (α := Option (Nat × Nat)) (fun o' => (d, slV o' (n + k)) :: l) (fun o' => Hp w0 F (own e sz o' (n + k) (xs ++ news) :: m)) :=
 zhr (val := fun o' => slV o' (n + k)) hok (fun w hw => by
  obtain ⟨i, z, h1', h2, h3, h4, h5⟩ := zmb hi
  subst h2
  subst h3
  have hle : (n + k) * i.bytes + (n + k) ≤ 140737488355328 := by rwa [Nat.mul_add, Nat.mul_one] at hn
  obtain ⟨o', w', hr, hits⟩ := qlc (P := P) (ty' := T') (c := c) (zbm hT) h1' h4 h5 (Nat.le_of_ble_eq_true hsz) (hw.item (own e i.size o n xs) (by simp)).1 hl (hnews w hw) (za4.1 h1) (by simp only [maxLen]; omega) (by omega)
  refine ⟨o', w', ?_, Hp.call (m := [own e i.size o n xs]) hw hits (fun k' _ hk => ⟨own e i.size o n xs, by simp, hk⟩)⟩
  simp only [execOp, resolve, invoke, builtin]
  simp [zax hx, zax hy, hr])
def zh7 (sz : Nat) (l : zat) : List (Nat × Operand) → Option (List (Nat × Nat × Value))
 | [] => some []
 | (i, x) :: r => match evO l x, zh7 sz l r with
  | some v, some L => some ((i * sz, sz, v) :: L)
  | _, _ => none
theorem zj7 {sz : Nat} : ∀ {ps : List (Nat × Operand)} {L : List (Nat × Nat × Value)}, zh7 sz l ps = some L → ps.length = L.length ∧ ∀ (j : Nat) p q, (ps.map fun p => (p.1, ev l p.2))[j]? = some p → L[j]? = some q → (p.1 * sz, sz) = (q.1, q.2.1) ∧ p.2 = q.2.2
 | [], L, h => by simp only [zh7, Option.some.injEq] at h; subst h; simp
 | (i, x) :: r, L, h => by
  simp only [zh7] at h
  split at h
  ·rename_i v L' h2 h3
   simp only [Option.some.injEq] at h
   subst h
   obtain ⟨a, b⟩ := zj7 h3
   refine ⟨by simp [a], fun j p q hp hq => ?_⟩
   cases j with
   | zero =>
    simp only [List.map_cons, List.getElem?_cons_zero, Option.some.injEq] at hp hq
    subst hp; subst hq
    exact ⟨rfl, zax h2⟩
   | succ j => exact b j p q (by simpa using hp) (by simpa using hq)
  ·cases h
theorem zlc {n : Nat} : ∀ (L : List (Nat × Nat × Value)) (z : List Value), zxm n L → z.length = n → (zei z L).length = n
 | [], _, _, h => h
 | p :: r, z, hk, h => by
  obtain ⟨k1, k2⟩ := hk p (by simp)
  exact zlc r _ (fun q hq => hk q (by simp [hq])) (by rw [zp9 _ _ _ (by simp [k1]; omega)]; exact h)
def zcu (z : Value) (n : Nat) : List Value := (List.range n).map fun i => z.cells[i % z.cells.size]!
theorem Hp.newOwn {w : World} {e : TypeId} {sz n c : Nat} {xs : List Value} {ob : Obj} (hw : Hp w0 F m w) (h : (own e sz (some (w.heap.size, c)) n xs).prop (w.alloc ob)) : Hp w0 F (own e sz (some (w.heap.size, c)) n xs :: m) (w.alloc ob) := by
 have hits : Its none' w [own e sz (some (w.heap.size, c)) n xs] (w.alloc ob) := by
  refine ⟨⟨rfl, rfl, rfl, by simp, fun k hk _ => Below.heap_alloc w _ k hk⟩, fun it hm => ?_, .cons (fun _ h => by cases h) .nil⟩
  obtain rfl : it = own e sz (some (w.heap.size, c)) n xs := by simpa using hm
  refine ⟨h, zab _ _ _ _ _ _, fun k ⟨c', hk⟩ => ?_⟩
  simp only [Option.some.injEq, Prod.mk.injEq] at hk
  obtain ⟨rfl, -⟩ := hk
  exact ⟨by simp, fun h => absurd h (Nat.lt_irrefl _)⟩
 exact Hp.call0 hw hits
theorem zbc {T e : TypeId} {len sz b : Nat} {ps : List (Nat × Operand)} {L : List (Nat × Nat × Value)} {z : Value} (hok : zfj N l (.buildSlice T len ps.toArray) d = true) (hT : zka P T = some e) (hi : zqb P e = some (sz, b, z)) (hp : zh7 sz l ps = some L)
  (hlen : (Nat.ble (len * sz) 1000000 && Nat.ble 1 (len * sz)) = true) (hkb : zdh (len * sz) L = true) :
  HO P ⟨some d, .buildSlice T len ps.toArray, ty, pos, after, g⟩ Q N l (Hp w0 F m) (α := { b : Nat // w0.heap.size ≤ b }) (fun c => (d, .slice (some ⟨c.1, 0, none⟩) len len) :: l) (fun c => Hp w0 F (own e sz (some (c.1, len)) len (zei (zcu z (len * sz)) L) :: m)) :=
 zhr (val := fun c : { b : Nat // w0.heap.size ≤ b } => .slice (some ⟨c.1, 0, none⟩) len len) hok (fun w hw => by
  obtain ⟨i, h1, h2, h3, h4⟩ := zhj hi
  subst h2
  simp only [Bool.and_eq_true] at hlen
  have hle := Nat.le_of_ble_eq_true hlen.1
  have hge := Nat.le_of_ble_eq_true hlen.2
  have hk := zf4 hkb
  obtain ⟨a1, a2⟩ := zj7 hp
  have hzl : (zcu z (len * i.size)).length = len * i.size := by simp [zcu]
  have hbl := zlc L _ hk hzl
  have hfill := zt7 (place := fun j => some (j * i.size, i.size)) L (ps.map fun p => (p.1, ev l p.2)) (zcu z (len * i.size)).toArray (by simpa using a1) (fun j p q hp hq => by
   obtain ⟨x1, x2⟩ := a2 j p q hp hq
   exact ⟨by rw [x1], x2⟩) (by simpa [hzl] using hk)
  have hps : (ps.toArray.map fun (x : Nat × Operand) => match x with | (i, x) => (i, ev l x)) = (ps.map fun p => (p.1, ev l p.2)).toArray := by simp
  have hz : ((Array.range (len * i.size)).map fun x => z.cells[x % z.cells.size]!) = (zcu z (len * i.size)).toArray := by
   apply Array.ext'
   simp [zcu, Array.toList_range]
  have hne : ¬ (len * i.size = 0) := by omega
  have hbig : ¬ (len * i.size > 2 ^ 24) := by omega
  have hlm : len ≤ maxLen := by
   have h5 : len ≤ len * i.size := Nat.le_mul_of_pos_right _ (Nat.pos_of_ne_zero fun h => by rw [h] at hge; simp at hge)
   unfold maxLen; omega
  have htk : (zei (zcu z (len * i.size)) L).toArray.toList.take (len * i.size) = zei (zcu z (len * i.size)) L := List.take_of_length_le (Nat.le_of_eq hbl)
  have hnew : (own e i.size (some (w.heap.size, len)) len (zei (zcu z (len * i.size)) L)).prop (w.alloc (.cells (zei (zcu z (len * i.size)) L).toArray e)) :=
   ⟨hbl, Nat.le_refl _, hlm, _, heap_alloc_new w _, by simp [hbl], htk⟩
  refine ⟨⟨w.heap.size, hw.fr.size⟩, w.alloc (.cells (zei (zcu z (len * i.size)) L).toArray e), ?_, hw.newOwn hnew⟩
  have hbig' : ¬ (16777216 < len * i.size) := by omega
  simp only [execOp, hps, Instr.buildSlice, Sem.run_bind, run_underlying (zbm hT) w, Result.andThen_ok, sizeOf, typeInfo, zeroValue]
  simp [newRow, h1, h4, hz, hfill, hbig', hne])
theorem qac {T e : TypeId} {n sz : Nat} {z : Array Value} {ps : List (Nat × Operand)} {L : List (Nat × Nat × Value)} (hT : P.underlying T = some (.array n e)) (he : zc1 P e = some sz) (hz : (P.info? T).bind (·.zero) = some (.agg z)) (hp : zh7 sz l ps = some L) (hkb : zdh z.size L = true) :
  OV P (.build T ps.toArray) ty l H (.agg (zei z.toList L).toArray) := ov fun _ _ _ w _ => by
 obtain ⟨q, hq, hqs⟩ := zbp he
 obtain ⟨a1, a2⟩ := zj7 hp
 have hzr : (zeroValue T).run P w = .ok (.agg z) w := by
  cases hi : P.info? T with
  | none => simp [hi] at hz
  | some i =>
   have hz' : i.zero = some (.agg z) := by simpa [hi] using hz
   simp [zeroValue, typeInfo, hi, hz']
 have hfill := zt7 (place := fun j => some (j * sz, sz)) L (ps.map fun p => (p.1, ev l p.2)) z (by simpa using a1) (fun j p q hp hq => by
  obtain ⟨x1, x2⟩ := a2 j p q hp hq
  exact ⟨by rw [x1], x2⟩) (zf4 hkb)
 have hps : (ps.toArray.map fun (x : Nat × Operand) => match x with | (i, x) => (i, ev l x)) = (ps.map fun p => (p.1, ev l p.2)).toArray := by simp
 have hsz : (sizeOf e).run P w = .ok sz w := by simp [sizeOf, typeInfo, hq, hqs]
 simp only [execOp, hps, Instr.build, Sem.run_bind, hzr, Result.andThen_ok, run_underlying hT w, Value.cells, hsz, hfill]
 rfl
/-! ### functions that the model answers itself -/
theorem qpm {f : FuncId} {fn : Func} {E : Array Value → Sem Value} {xs : List Operand} {tys : Array TypeId} {vs : List Value} {v : Value} (hf : P.funcs[f]? = some fn) (hname : (fn.name == "runtime.NumGoroutine") = false) (hb : fn.body.isNone = true) (hn : Extern.findNext fn = none) (he : Extern.find fn = some E)
  (hx : evs l xs = some vs) (hr : ∀ w, (E vs.toArray).run P w = .ok v w) : OV P (.call ⟨.value (.func f), xs.toArray, tys⟩) ty l H v := ov fun _ _ _ w _ => by
 simp only [execOp, resolve, Deferred.ofValue, ev, List.map_toArray, zhz hx]
 simp [invoke, run_callFunc_extern hf hname hb hn he, hr w]
end Go.Eng
