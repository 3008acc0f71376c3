/- Predicates over rows: slices.IndexFunc, ContainsFunc, node.every at strings and at ints; node.wide. Own work; no condition. -/
/- node: May, Cap, Fan, may, Find, Down. Own work; no condition. -/
/- node: may. Own work; no condition. -/
import Derived.Test.YtkkfifhaobjicaaGreatDoorHb13
namespace Go.Proofs.YtkkfifhaobjicaaGreatDoor
open Go.RowKit Go.Eng Go.Eng.Tr
set_option maxRecDepth 100000
set_option maxHeartbeats 40000000
theorem zjl {w w1 w2 : World} (h : Fr none' w w1) (g : Fr none' w1 w2) : Fr none' w w2 := ⟨g.os.trans h.os, g.tape.trans h.tape, g.output.trans h.output, Nat.le_trans h.size g.size, fun k hk hF => (g.block k (Nat.lt_of_lt_of_le hk h.size) hF).trans (h.block k hk hF)⟩
def iV (k : Nat) : Value := .int .i64 (k : Nat)
def qmt (g : FuncId) (cs : List Value) {α : Type} (enc : α → Value) (l : List α) (p : α → Bool) (w : World) : Prop := zb9 Tryz.prog g = true ∧ ∀ x ∈ l, ∀ w', Fr none' w w' → Pu Tryz.prog g ([enc x] ++ cs).toArray w' (.bool (p x))
theorem zzo {α : Type} (l : List α) (p : α → Bool) (i : Nat) (hi : i < l.length) (h : ∀ j (hj : j < l.length), j < i → p l[j] = false) (hp : p l[i] = true) : l.any p = true := List.any_eq_true.2 ⟨_, List.getElem_mem hi, hp⟩
theorem zu6 (a : Option Addr) (ns : List K) (c : Nat) (g : FuncId) (cs : List Value) (p : K → Bool) (hL : ns.length ≤ 1000000) (w : World) (hr : Rd w a (ns.map kV)) (hg : qmt g cs kV ns p w) :
  Ct Tryz.prog 205 #[.slice a ns.length c, .func (.func g) #[] cs.toArray] w none' (fun i : Int => .int .i64 i) (fun i => decide (0 ≤ i) = ns.any p ∧ -1 ≤ i ∧ i ≤ 1000000) (fun _ => []) := by
 refine zfo [_, _] Tryz.func205 rfl rfl ?_
 simp only [zaa, Nat.reduceAdd]
 (repeat refine s_ ?_)
 refine zct (α := Nat) (fun i => [(0, .slice a ns.length c), (1, .func (.func g) #[] cs.toArray), (7, .int .i64 ns.length), (8, .int .i64 i)]) (fun i => i ≤ ns.length ∧ ∀ j (h : j < ns.length), j < i → p ns[j] = false) (fun _ => []) (fun i => ns.length - i) 0 ⟨rfl, rfl, rfl, rfl, trivial⟩ ⟨Nat.zero_le _, fun j _ h => absurd h (Nat.not_lt_zero _)⟩ (fun _ h => h) fun i ⟨h1, h2⟩ => ?_
 by_cases hi : i < ns.length
 ·obtain ⟨b', off, rfl, hr'⟩ := hr.at_ (by intro h; have := congrArg List.length h; rw [List.length_map, List.length_nil] at this; omega)
  obtain ⟨kq, hkq⟩ : ∃ x, ns[i] = x := ⟨_, rfl⟩
  have hget : (ns.map kV)[i]? = some (kV kq) := by rw [List.getElem?_map, List.getElem?_eq_getElem hi, hkq]; rfl
  (repeat refine s_ ?_)
  refine l_w rfl (zaz rfl rfl (fun w' hw' => zbg hr' (fun h => h) hw' i (kV kq) hget)) ?_
  (repeat refine s_ ?_)
  refine zae rfl (zl4 (fs := []) rfl hg.1 rfl rfl rfl fun w1 hw1 => hg.2 kq (hkq ▸ List.getElem_mem hi) w1 hw1.fr) fun _ => ?_
  (repeat refine s_ ?_)
  refine qo3 rfl rfl (fun hl => ?_) (fun hl => ?_)
  ·(repeat refine s_ ?_)
   exact zbw (i : Int) rfl rfl rfl ⟨by rw [zzo ns p i hi h2 (hkq ▸ hl)]; exact decide_eq_true (by omega), by omega, by omega⟩ (List.nil_sublist _) (fun _ h => nomatch h)
  ·(repeat refine s_ ?_)
   refine zay (i + 1) ⟨rfl, rfl, rfl, rfl, trivial⟩ ⟨hi, fun j hj hji => ?_⟩ (fun _ h => h) (by omega)
   by_cases e : j = i
   ·subst e; rw [hkq]; simpa using hl
   ·exact h2 j hj (by omega)
 ·(repeat refine s_ ?_)
  refine zbw (-1 : Int) rfl rfl rfl ⟨?_, by omega, by omega⟩ (List.nil_sublist _) (fun _ h => nomatch h)
  rw [decide_eq_false (by omega)]
  refine (List.any_eq_false.2 fun x hx => ?_).symm
  obtain ⟨j, hj, rfl⟩ := List.getElem_of_mem hx
  rw [h2 j hj (by omega)]
  exact Bool.false_ne_true
theorem zoh (a : Option Addr) (ns : List K) (c : Nat) (g : FuncId) (cs : List Value) (p : K → Bool) (hL : ns.length ≤ 1000000) (w : World) (hr : Rd w a (ns.map kV)) (hg : qmt g cs kV ns p w) :
  Pu Tryz.prog 187 #[.slice a ns.length c, .func (.func g) #[] cs.toArray] w (.bool (ns.any p)) := by
 refine zbl [_, _] Tryz.func187 rfl rfl ?_
 simp only [zaa, Nat.reduceAdd]
 (repeat refine s_ ?_)
 refine ze5 rfl rfl (by kernel_rfl) rfl (fun w1 hw1 => zu6 a ns c g cs p hL w1 (hr.keep hw1) ⟨hg.1, fun x hx w' hf => hg.2 x hx w' (zjl hw1.fr hf)⟩) fun x hx => ?_
 obtain ⟨e1, e2, e3⟩ := hx
 (repeat refine s_ ?_)
 exact zc2 rfl rfl (by rw [e1])
theorem zt2 (k : K) (g : FuncId) (cs : List Value) (b : Nat) (v : Bool) (w : World) (hb : zb9 Tryz.prog g = true) (hc : w.cell? ⟨b, 0, none⟩ = some (.func (.func g) #[] cs.toArray)) (hg : ∀ w', Fr none' w w' → Pu Tryz.prog g ([kV k] ++ cs).toArray w' (.bool v)) :
  Pu Tryz.prog 188 #[kV k, .pointer (some ⟨b, 0, none⟩)] w (.bool (!v)) := by
 refine zbl [_, _] Tryz.func188 rfl rfl ?_
 simp only [zaa, Nat.reduceAdd]
 (repeat refine s_ ?_)
 refine l_w rfl (zet rfl rfl (fun h => h) hc) ?_
 (repeat refine s_ ?_)
 refine zae rfl (zl4 (fs := []) rfl hb rfl rfl rfl fun w1 hw1 => hg w1 hw1.fr) fun _ => ?_
 (repeat refine s_ ?_)
 exact zc2 rfl rfl rfl
theorem zvh (a : Option Addr) (ns : List K) (c : Nat) (g : FuncId) (cs : List Value) (p : K → Bool) (hL : ns.length ≤ 1000000) (w : World) (hr : Rd w a (ns.map kV)) (hg : qmt g cs kV ns p w) :
  Pu Tryz.prog 169 #[.slice a ns.length c, .func (.func g) #[] cs.toArray] w (.bool (ns.all p)) := by
 refine zbl [_, _] Tryz.func169 rfl rfl ?_
 simp only [zaa, Nat.reduceAdd]
 (repeat refine s_ ?_)
 refine zd2 rfl rfl rfl fun b1 _ => ?_
 (repeat refine s_ ?_)
 refine l_w rfl (znm rfl) ?_
 (repeat refine s_ ?_)
 refine zae rfl (zag rfl (by kernel_rfl) rfl (fun w1 hw1 => zoh a ns c 188 [.pointer (some ⟨b1, 0, none⟩)] (fun x => !p x) hL w1 (hr.keep hw1) ⟨by kernel_rfl, fun x hx w' hf => zt2 x g cs b1 (p x) w' hg.1 (((Hp.start w1 none').keep hf).old (fun h => h) (zdx (hw1.get (.head _)) rfl)) fun w'' hf' => hg.2 x hx w'' (zjl hw1.fr (zjl hf hf'))⟩)) fun _ => ?_
 (repeat refine s_ ?_)
 exact zc2 rfl rfl (by rw [List.not_any_eq_all_not]; simp)
theorem zvf (a : Option Addr) (ns : List Nat) (c : Nat) (g : FuncId) (cs : List Value) (p : Nat → Bool) (hL : ns.length ≤ 1000000) (w : World) (hr : Rd w a (ns.map iV)) (hg : qmt g cs iV ns p w) :
  Ct Tryz.prog 189 #[.slice a ns.length c, .func (.func g) #[] cs.toArray] w none' (fun i : Int => .int .i64 i) (fun i => decide (0 ≤ i) = ns.any p ∧ -1 ≤ i ∧ i ≤ 1000000) (fun _ => []) := by
 refine zfo [_, _] Tryz.func189 rfl rfl ?_
 simp only [zaa, Nat.reduceAdd]
 (repeat refine s_ ?_)
 refine zct (α := Nat) (fun i => [(0, .slice a ns.length c), (1, .func (.func g) #[] cs.toArray), (7, .int .i64 ns.length), (8, .int .i64 i)]) (fun i => i ≤ ns.length ∧ ∀ j (h : j < ns.length), j < i → p ns[j] = false) (fun _ => []) (fun i => ns.length - i) 0 ⟨rfl, rfl, rfl, rfl, trivial⟩ ⟨Nat.zero_le _, fun j _ h => absurd h (Nat.not_lt_zero _)⟩ (fun _ h => h) fun i ⟨h1, h2⟩ => ?_
 by_cases hi : i < ns.length
 ·obtain ⟨b', off, rfl, hr'⟩ := hr.at_ (by intro h; have := congrArg List.length h; rw [List.length_map, List.length_nil] at this; omega)
  obtain ⟨kq, hkq⟩ : ∃ x, ns[i] = x := ⟨_, rfl⟩
  have hget : (ns.map iV)[i]? = some (iV kq) := by rw [List.getElem?_map, List.getElem?_eq_getElem hi, hkq]; rfl
  (repeat refine s_ ?_)
  refine l_w rfl (zaz rfl rfl (fun w' hw' => zbg hr' (fun h => h) hw' i (iV kq) hget)) ?_
  (repeat refine s_ ?_)
  refine zae rfl (zl4 (fs := []) rfl hg.1 rfl rfl rfl fun w1 hw1 => hg.2 kq (hkq ▸ List.getElem_mem hi) w1 hw1.fr) fun _ => ?_
  (repeat refine s_ ?_)
  refine qo3 rfl rfl (fun hl => ?_) (fun hl => ?_)
  ·(repeat refine s_ ?_)
   exact zbw (i : Int) rfl rfl rfl ⟨by rw [zzo ns p i hi h2 (hkq ▸ hl)]; exact decide_eq_true (by omega), by omega, by omega⟩ (List.nil_sublist _) (fun _ h => nomatch h)
  ·(repeat refine s_ ?_)
   refine zay (i + 1) ⟨rfl, rfl, rfl, rfl, trivial⟩ ⟨hi, fun j hj hji => ?_⟩ (fun _ h => h) (by omega)
   by_cases e : j = i
   ·subst e; rw [hkq]; simpa using hl
   ·exact h2 j hj (by omega)
 ·(repeat refine s_ ?_)
  refine zbw (-1 : Int) rfl rfl rfl ⟨?_, by omega, by omega⟩ (List.nil_sublist _) (fun _ h => nomatch h)
  rw [decide_eq_false (by omega)]
  refine (List.any_eq_false.2 fun x hx => ?_).symm
  obtain ⟨j, hj, rfl⟩ := List.getElem_of_mem hx
  rw [h2 j hj (by omega)]
  exact Bool.false_ne_true
theorem zpe (a : Option Addr) (ns : List Nat) (c : Nat) (g : FuncId) (cs : List Value) (p : Nat → Bool) (hL : ns.length ≤ 1000000) (w : World) (hr : Rd w a (ns.map iV)) (hg : qmt g cs iV ns p w) :
  Pu Tryz.prog 171 #[.slice a ns.length c, .func (.func g) #[] cs.toArray] w (.bool (ns.any p)) := by
 refine zbl [_, _] Tryz.func171 rfl rfl ?_
 simp only [zaa, Nat.reduceAdd]
 (repeat refine s_ ?_)
 refine ze5 rfl rfl (by kernel_rfl) rfl (fun w1 hw1 => zvf a ns c g cs p hL w1 (hr.keep hw1) ⟨hg.1, fun x hx w' hf => hg.2 x hx w' (zjl hw1.fr hf)⟩) fun x hx => ?_
 obtain ⟨e1, e2, e3⟩ := hx
 (repeat refine s_ ?_)
 exact zc2 rfl rfl (by rw [e1])
theorem zta (k : Nat) (g : FuncId) (cs : List Value) (b : Nat) (v : Bool) (w : World) (hb : zb9 Tryz.prog g = true) (hc : w.cell? ⟨b, 0, none⟩ = some (.func (.func g) #[] cs.toArray)) (hg : ∀ w', Fr none' w w' → Pu Tryz.prog g ([iV k] ++ cs).toArray w' (.bool v)) :
  Pu Tryz.prog 172 #[iV k, .pointer (some ⟨b, 0, none⟩)] w (.bool (!v)) := by
 refine zbl [_, _] Tryz.func172 rfl rfl ?_
 simp only [zaa, Nat.reduceAdd]
 (repeat refine s_ ?_)
 refine l_w rfl (zet rfl rfl (fun h => h) hc) ?_
 (repeat refine s_ ?_)
 refine zae rfl (zl4 (fs := []) rfl hb rfl rfl rfl fun w1 hw1 => hg w1 hw1.fr) fun _ => ?_
 (repeat refine s_ ?_)
 exact zc2 rfl rfl rfl
theorem zvw (a : Option Addr) (ns : List Nat) (c : Nat) (g : FuncId) (cs : List Value) (p : Nat → Bool) (hL : ns.length ≤ 1000000) (w : World) (hr : Rd w a (ns.map iV)) (hg : qmt g cs iV ns p w) :
  Pu Tryz.prog 145 #[.slice a ns.length c, .func (.func g) #[] cs.toArray] w (.bool (ns.all p)) := by
 refine zbl [_, _] Tryz.func145 rfl rfl ?_
 simp only [zaa, Nat.reduceAdd]
 (repeat refine s_ ?_)
 refine zd2 rfl rfl rfl fun b1 _ => ?_
 (repeat refine s_ ?_)
 refine l_w rfl (znm rfl) ?_
 (repeat refine s_ ?_)
 refine zae rfl (zag rfl (by kernel_rfl) rfl (fun w1 hw1 => zpe a ns c 172 [.pointer (some ⟨b1, 0, none⟩)] (fun x => !p x) hL w1 (hr.keep hw1) ⟨by kernel_rfl, fun x hx w' hf => zta x g cs b1 (p x) w' hg.1 (((Hp.start w1 none').keep hf).old (fun h => h) (zdx (hw1.get (.head _)) rfl)) fun w'' hf' => hg.2 x hx w'' (zjl hw1.fr (zjl hf hf'))⟩)) fun _ => ?_
 (repeat refine s_ ?_)
 exact zc2 rfl rfl (by rw [List.not_any_eq_all_not]; simp)
theorem zym (k : K) (n : Int) (b : Nat) (w : World) (hc : w.cell? ⟨b, 0, none⟩ = some (.int .i64 n)) (hk : k.length ≤ 1000000) :
  Pu Tryz.prog 170 #[kV k, .pointer (some ⟨b, 0, none⟩)] w (.bool (decide ((k.length : Int) = n))) := by
 refine zbl [_, _] Tryz.func170 rfl rfl ?_
 unfold kV
 simp only [zaa, Nat.reduceAdd]
 (repeat refine s_ ?_)
 refine l_w rfl (zet rfl rfl (fun h => h) hc) ?_
 (repeat refine s_ ?_)
 refine zc2 rfl rfl ?_
 rw [show (kB k).size = k.length from List.size_toArray]
 exact congrArg Value.bool (by rw [Bool.eq_iff_iff]; simp)
theorem zn5 (a : Option Addr) (ns : List K) (c : Nat) (n : Int) (hL : ns.length ≤ 1000000) (hk : ∀ k ∈ ns, k.length ≤ 1000000) (w : World) (hr : Rd w a (ns.map kV)) :
  Pu Tryz.prog 144 #[.slice a ns.length c, .int .i64 n] w (.bool (ns.all fun k => decide ((k.length : Int) = n))) := by
 refine zbl [_, _] Tryz.func144 rfl rfl ?_
 simp only [zaa, Nat.reduceAdd]
 (repeat refine s_ ?_)
 refine zd2 rfl rfl rfl fun b1 _ => ?_
 (repeat refine s_ ?_)
 refine l_w rfl (znm rfl) ?_
 (repeat refine s_ ?_)
 refine zae rfl (zag rfl (by kernel_rfl) rfl (fun w1 hw1 => zvh a ns c 170 [.pointer (some ⟨b1, 0, none⟩)] (fun k => decide ((k.length : Int) = n)) hL w1 (hr.keep hw1) ⟨by kernel_rfl, fun x hx w' hf => zym x n b1 w' (((Hp.start w1 none').keep hf).old (fun h => h) (zdx (hw1.get (.head _)) rfl)) (hk x hx)⟩)) fun _ => ?_
 (repeat refine s_ ?_)
 exact zc2 rfl rfl rfl
theorem qb1 (k : Nat) (w : World) : Pu Tryz.prog 146 #[iV k] w (.bool (decide (1 ≤ k ∧ k < 1024))) := by
 refine zbl [_] Tryz.func146 rfl rfl ?_
 unfold iV
 simp only [zaa]
 by_cases h1 : 1 ≤ (k : Int)
 ·(repeat refine s_ ?_)
  refine zc2 rfl rfl (congrArg Value.bool ?_)
  rw [Bool.eq_iff_iff, decide_eq_true_iff, decide_eq_true_iff]
  omega
 ·(repeat refine s_ ?_)
  refine zc2 rfl rfl (congrArg Value.bool ?_)
  rw [decide_eq_false (by omega)]
structure ShB (s : Sh) : Prop where
 k1 : 1 ≤ s.kw
 k2 : s.kw ≤ 64
 v2 : s.vw ≤ 64
def shI (k v : Int) : Value := .agg #[.int .i64 k, .int .i64 v]
def shV (s : Sh) : Value := shI s.kw s.vw
structure Pl where
 k : Option Addr × Nat
 v : Option Addr × Nat
 d : Option Addr × Nat
def ndV (n : Nd) (a : Pl) : Value := .agg #[.bool n.leaf, .slice a.k.1 n.keys.length a.k.2, .slice a.v.1 n.vals.length a.v.2, .slice a.d.1 n.kids.length a.d.2]
structure NdR (w : World) (n : Nd) (a : Pl) : Prop where
 k : Rd w a.k.1 (n.keys.map kV)
 v : Rd w a.v.1 (n.vals.map kV)
 d : Rd w a.d.1 (n.kids.map iV)
structure NdB (n : Nd) : Prop where
 k : n.keys.length ≤ 100000
 v : n.vals.length ≤ 100000
 d : n.kids.length ≤ 100000
 kl : ∀ k ∈ n.keys, k.length ≤ 1000000
 vl : ∀ k ∈ n.vals, k.length ≤ 1000000
theorem qbc (k v : Int) (w : World) : Pu Tryz.prog 47 #[shI k v] w (.bool (decide (1 ≤ k ∧ k ≤ 64 ∧ 0 ≤ v ∧ v ≤ 64))) := by
 refine zbl [_] Tryz.func47 rfl rfl ?_
 unfold shI
 simp only [zaa]
 refine goA ?_
 refine zb0 rfl rfl fun b1 hb1 => ?_
 by_cases h1 : 1 ≤ k
 ·by_cases h2 : k ≤ 64
  ·by_cases h3 : 0 ≤ v
   ·refine goA ?_
    exact zc2 rfl rfl (congrArg Value.bool (by rw [Bool.eq_iff_iff, decide_eq_true_iff, decide_eq_true_iff]; omega))
   ·refine goA ?_
    exact zc2 rfl rfl (congrArg Value.bool (by rw [decide_eq_false (by omega)]))
  ·refine goA ?_
   exact zc2 rfl rfl (congrArg Value.bool (by rw [decide_eq_false (by omega)]))
 ·refine goA ?_
  exact zc2 rfl rfl (congrArg Value.bool (by rw [decide_eq_false (by omega)]))
theorem zhb {s : Sh} (hs : ShB s) (w : World) : Pu Tryz.prog 47 #[shV s] w (.bool true) := by
 have h := qbc s.kw s.vw w
 rw [decide_eq_true ⟨by have := hs.k1; omega, by have := hs.k2; omega, by omega, by have := hs.v2; omega⟩] at h
 exact h
theorem zhf {s : Sh} (hs : ShB s) (w : World) : Pu Tryz.prog 19 #[shV s] w (.int .i64 s.cap) := by
 have h1 := hs.k1
 have h2 := hs.k2
 have h3 := hs.v2
 refine zbl [_] Tryz.func19 rfl rfl ?_
 unfold shV shI
 simp only [zaa]
 refine goA ?_
 refine zb0 rfl rfl fun b1 hb1 => ?_
 refine goA ?_
 refine zae rfl (zag rfl (by kernel_rfl) rfl (fun w1 hw1 => zhb hs w1)) fun _ => ?_
 refine goA ?_
 exact zc2 rfl rfl rfl
theorem zhh {s : Sh} (hs : ShB s) (w : World) : Pu Tryz.prog 105 #[shV s] w (.int .i64 s.fan) := by
 have h1 := hs.k1
 have h2 := hs.k2
 have h3 := hs.v2
 refine zbl [_] Tryz.func105 rfl rfl ?_
 unfold shV shI
 simp only [zaa]
 refine goA ?_
 refine zb0 rfl rfl fun b1 hb1 => ?_
 refine goA ?_
 refine zae rfl (zag rfl (by kernel_rfl) rfl (fun w1 hw1 => zhb hs w1)) fun _ => ?_
 refine goA ?_
 exact zc2 rfl rfl rfl
theorem zru (n : Nd) (a : Pl) (hs : Ks n.keys) (hb : n.keys.length ≤ 1000000) (k : K) (w : World) (hr : Rd w a.k.1 (n.keys.map kV)) : Pu Tryz.prog 38 #[ndV n a, kV k] w (.tuple #[.int .i64 (lb n.keys k : Nat), .bool (fd n.keys k)]) := by
 refine zbl [_, _] Tryz.func38 rfl rfl ?_
 unfold ndV
 simp only [zaa, Nat.reduceAdd]
 refine goA ?_
 refine zb0 rfl rfl fun b1 hb1 => ?_
 refine goA ?_
 refine zae rfl (zag rfl (by kernel_rfl) rfl (fun w1 hw1 => zu5 a.k.1 n.keys a.k.2 hs hb k w1 (hr.keep hw1))) fun _ => ?_
 refine goA ?_
 exact zg8 rfl rfl rfl rfl
theorem qca (n : Nd) (a : Pl) (hs : Ks n.keys) (hb : n.keys.length ≤ 1000000) (k : K) (w : World) (hr : Rd w a.k.1 (n.keys.map kV)) : Pu Tryz.prog 62 #[ndV n a, kV k] w (.int .i64 (dn n.keys k : Nat)) := by
 have hl := zvj n.keys k
 refine zbl [_, _] Tryz.func62 rfl rfl ?_
 unfold dn
 unfold ndV
 simp only [zaa, Nat.reduceAdd]
 refine goA ?_
 refine zb0 rfl rfl fun b1 hb1 => ?_
 refine goA ?_
 refine zae rfl (zag rfl (by kernel_rfl) rfl (fun w1 hw1 => zru n a hs hb k w1 (hr.keep hw1))) fun _ => ?_
 refine goA ?_
 cases fd n.keys k with
 | true =>
  refine goA ?_
  exact zc2 rfl rfl rfl
 | false =>
  refine goA ?_
  exact zc2 rfl rfl rfl
theorem qji : ∀ {l : List K}, (∀ j (h : j + 1 < l.length), kl l[j] l[j + 1]) → Ks l
 | [], _ => .nil
 | [a], _ => List.pairwise_singleton _ _
 | a :: b :: l, h => by
  have h1 : kl a b := h 0 (by simp)
  have h2 : Ks (b :: l) := qji fun j hj => h (j + 1) (by simpa using hj)
  refine List.pairwise_cons.2 ⟨fun x hx => ?_, h2⟩
  rcases List.mem_cons.1 hx with rfl | hx
  ·exact h1
  ·exact zb5 h1 ((List.pairwise_cons.1 h2).1 x hx)
open Classical in
theorem qb5 {s : Sh} (hs : ShB s) (n : Nd) (a : Pl) (hb : NdB n) (w : World) (hr : NdR w n a) : Pu Tryz.prog 108 #[shV s, ndV n a] w (.bool (decide (zfs s n))) := by
 have h1 := hs.k1
 have h2 := hs.k2
 have h3 := hs.v2
 have hbk := hb.k
 have hbv := hb.v
 have hbd := hb.d
 refine zbl [_, _] Tryz.func108 rfl rfl ?_
 obtain ⟨⟨ka, kc⟩, ⟨va, vc⟩, ⟨da, dc⟩⟩ := a
 obtain ⟨rk, rv, rd⟩ := hr
 simp only at rk rv rd
 have hcap := zhf hs
 have hfan := zhh hs
 unfold shV shI at hcap hfan ⊢
 unfold ndV
 obtain ⟨lf, hlf⟩ : ∃ x, n.leaf = x := ⟨_, rfl⟩
 obtain ⟨nk, hnk⟩ : ∃ x, n.keys.length = x := ⟨_, rfl⟩
 obtain ⟨nv, hnv⟩ : ∃ x, n.vals.length = x := ⟨_, rfl⟩
 obtain ⟨nd, hnd⟩ : ∃ x, n.kids.length = x := ⟨_, rfl⟩
 rw [hlf, hnk, hnv, hnd]
 rw [hnk] at hbk
 rw [hnv] at hbv
 rw [hnd] at hbd
 simp only [zaa, Nat.reduceAdd]
 refine goA ?_
 refine zb0 rfl rfl fun b1 hb1 => ?_
 refine goA ?_
 refine zb0 rfl rfl fun b2 hb2 => ?_
 refine goA ?_
 refine zct (α := Nat) (fun i => [(2, .pointer (some ⟨b1, 0, none⟩)), (3, .pointer (some ⟨b2, 0, none⟩)), (4, .bool false), (5, .int .i64 i)]) (fun i => 1 ≤ i ∧ (i ≤ nk ∨ i = 1) ∧ ∀ j (h : j + 1 < n.keys.length), j + 1 < i → kl n.keys[j] n.keys[j + 1]) (fun _ => _) (fun i => nk + 1 - i) 1 ⟨rfl, rfl, rfl, rfl, trivial⟩ ⟨Nat.le_refl _, .inr rfl, fun j _ h => absurd h (by omega)⟩ (fun _ h => h) fun i ⟨i1, i2, i3⟩ => ?_
 by_cases hi : i < nk
 ·obtain ⟨b', off, rfl, hr'⟩ := rk.at_ (by intro h; have := congrArg List.length h; rw [List.length_map, List.length_nil] at this; omega)
  obtain ⟨j, rfl⟩ : ∃ j, i = j + 1 := ⟨i - 1, by omega⟩
  have hj1 : j + 1 < n.keys.length := by omega
  obtain ⟨kp, hkp⟩ : ∃ x, n.keys[j] = x := ⟨_, rfl⟩
  obtain ⟨kq, hkq⟩ : ∃ x, n.keys[j + 1] = x := ⟨_, rfl⟩
  have g1 : (n.keys.map kV)[j]? = some (kV kp) := by rw [List.getElem?_map, List.getElem?_eq_getElem (Nat.lt_of_succ_lt hj1), hkp]; rfl
  have g2 : (n.keys.map kV)[j + 1]? = some (kV kq) := by rw [List.getElem?_map, List.getElem?_eq_getElem hj1, hkq]; rfl
  refine goA ?_
  refine zfc (by kernel_rfl) ?_
  refine goE ?_
  refine d_v [] rfl rfl (by kernel_rfl) (fun _ h => goH h) rfl rfl (zaz rfl rfl (fun w' hw' => zbg hr' (fun h => h) hw' (j + 1 - 1) (kV kp) g1)) ?_
  refine goE ?_
  refine d_v [] rfl rfl (by kernel_rfl) (fun _ h => goH h) rfl rfl (zaz rfl rfl (fun w' hw' => zbg hr' (fun h => h) hw' (j + 1) (kV kq) g2)) ?_
  unfold kV
  refine goE ?_
  refine zbs (by kernel_rfl) ?_
  refine goA ?_
  rw [ze2, ze2, zrn]
  refine qo3 rfl rfl (fun hl => ?_) (fun hl => ?_)
  ·have hnl : ¬ kl kp kq := hl
   refine goA ?_
   refine zc2 rfl rfl (congrArg Value.bool (decide_eq_false fun hm => hnl ?_).symm)
   have := List.pairwise_iff_getElem.1 hm.sorted j (j + 1) (by omega) (by omega) (Nat.lt_succ_self j)
   rw [hkp, hkq] at this
   exact this
  ·have hnl : kl kp kq := Classical.not_not.1 hl
   refine goA ?_
   refine zay (j + 2) ⟨rfl, rfl, rfl, rfl, trivial⟩ ⟨by omega, by omega, fun e he hej => ?_⟩ (fun _ h => h) (by omega)
   by_cases e' : e = j
   ·subst e'; rw [hkp, hkq]; exact hnl
   ·exact i3 e he (by omega)
 ·have hks : Ks n.keys := qji fun j hj => i3 j hj (by omega)
  refine goA ?_
  obtain ⟨wk, hwk⟩ : ∃ x, (n.keys.all fun k => decide ((k.length : Int) = s.kw)) = x := ⟨_, rfl⟩
  refine zae rfl (zag rfl (by kernel_rfl) rfl (fun w1 hw1 => (by have := zn5 ka n.keys kc s.kw (by omega) hb.kl w1 (rk.keep hw1); rw [hnk, hwk] at this; exact this))) fun _ => ?_
  cases wk with
  | false =>
   refine goA ?_
   refine zc2 rfl rfl (congrArg Value.bool (decide_eq_false fun hm => ?_).symm)
   have : (n.keys.all fun k => decide ((k.length : Int) = s.kw)) = true := List.all_eq_true.2 fun k hk => decide_eq_true (by have := hm.wide k hk; omega)
   rw [hwk] at this
   cases this
  | true =>
   have hwk : ∀ k ∈ n.keys, k.length = s.kw := fun k hk => by
    have := of_decide_eq_true (List.all_eq_true.1 hwk k hk)
    omega
   refine goA ?_
   cases lf with
   | true =>
    obtain ⟨wv, hwv⟩ : ∃ x, (n.vals.all fun k => decide ((k.length : Int) = s.vw)) = x := ⟨_, rfl⟩
    have hiff : zfs s n ↔ nd = 0 ∧ nk = nv ∧ wv = true ∧ nk ≤ s.cap := by
     refine ⟨fun hm => ?_, fun ⟨e1, e2, e3, e4⟩ => ⟨hks, hwk, fun _ => ⟨List.eq_nil_of_length_eq_zero (by omega), by omega, fun v hv => ?_, by omega⟩, fun h => by rw [hlf] at h; cases h⟩⟩
     ·obtain ⟨f1, f2, f3, f4⟩ := hm.leaf hlf
      rw [f1] at hnd
      exact ⟨hnd.symm, by omega, by rw [← hwv]; exact List.all_eq_true.2 fun k hk => decide_eq_true (by have := f3 k hk; omega), by omega⟩
     ·rw [← hwv] at e3
      have := of_decide_eq_true (List.all_eq_true.1 e3 v hv)
      omega
    have hw2 : ∀ w', Fr none' w w' → Pu Tryz.prog 144 #[.slice va nv vc, .int .i64 s.vw] w' (.bool wv) := fun w' hw' => by
     have := zn5 va n.vals vc s.vw (by omega) hb.vl w' (rv.fr hw')
     rw [hnv, hwv] at this
     exact this
    by_cases c1 : nd = 0
    ·by_cases c2 : nk = nv
     ·refine goA ?_
      refine zfc (by kernel_rfl) ?_
      refine goE ?_
      refine zau 18 ⟨by kernel_rfl, by decide⟩ rfl rfl (zag rfl (by kernel_rfl) rfl (fun w1 hw1 => hw2 w1 hw1.fr)) (fun _ _ h => h) fun _ => ?_
      cases wv with
      | true =>
       refine goE ?_
       refine zau 25 ⟨by kernel_rfl, by decide⟩ rfl rfl (zag rfl (by kernel_rfl) rfl (fun w1 hw1 => hcap w1)) (fun _ _ h => h) fun _ => ?_
       refine goE ?_
       refine zbs (by kernel_rfl) ?_
       refine goA ?_
       exact zc2 rfl rfl (congrArg Value.bool (by rw [Bool.eq_iff_iff, decide_eq_true_iff, decide_eq_true_iff, hiff]; exact ⟨fun h => ⟨c1, c2, rfl, by omega⟩, fun h => by omega⟩))
      | false =>
       refine goE ?_
       refine zbs (by kernel_rfl) ?_
       refine goA ?_
       exact zc2 rfl rfl (congrArg Value.bool (decide_eq_false fun hm => by have := (hiff.1 hm).2.2.1; cases this).symm)
     ·refine goA ?_
      (refine zfc (by kernel_rfl) ?_; refine goE ?_; refine zbs (by kernel_rfl) ?_)
      refine goA ?_
      exact zc2 rfl rfl (congrArg Value.bool (decide_eq_false fun hm => by have := hiff.1 hm; omega).symm)
    ·refine goA ?_
     (refine zfc (by kernel_rfl) ?_; refine goE ?_; refine zbs (by kernel_rfl) ?_)
     refine goA ?_
     exact zc2 rfl rfl (congrArg Value.bool (decide_eq_false fun hm => by have := hiff.1 hm; omega).symm)
   | false =>
    obtain ⟨wd, hwd⟩ : ∃ x, (n.kids.all fun k => decide (1 ≤ k ∧ k < 1024)) = x := ⟨_, rfl⟩
    have hiff : zfs s n ↔ wd = true ∧ nv = 0 ∧ nd = nk + 1 ∧ 1 ≤ nk ∧ nd ≤ s.fan := by
     refine ⟨fun hm => ?_, fun ⟨e1, e2, e3, e4, e5⟩ => ⟨hks, hwk, fun h => by (rw [hlf] at h; cases h), fun _ => ⟨fun k hk => ?_, List.eq_nil_of_length_eq_zero (by omega), by omega, by omega, by omega⟩⟩⟩
     ·obtain ⟨f1, f2, f3, f4, f5⟩ := hm.inner hlf
      rw [f2] at hnv
      exact ⟨by rw [← hwd]; exact List.all_eq_true.2 fun k hk => decide_eq_true (f1 k hk), hnv.symm, by omega, by omega, by omega⟩
     ·rw [← hwd] at e1
      exact of_decide_eq_true (List.all_eq_true.1 e1 k hk)
    have hw2 : ∀ w', Fr none' w w' → Pu Tryz.prog 145 #[.slice da nd dc, .func (.func 146) #[] #[]] w' (.bool wd) := fun w' hw' => by
     have := zvw da n.kids dc 146 [] (fun k => decide (1 ≤ k ∧ k < 1024)) (by omega) w' (rd.fr hw') ⟨by kernel_rfl, fun x _ w'' _ => qb1 x w''⟩
     rw [hnd, hwd] at this
     exact this
    refine goA ?_
    refine zae rfl (zag rfl (by kernel_rfl) rfl (fun w1 hw1 => hw2 w1 hw1.fr)) fun _ => ?_
    cases wd with
    | false =>
     refine goA ?_
     (refine zfc (by kernel_rfl) ?_; refine goE ?_; refine zbs (by kernel_rfl) ?_)
     refine goA ?_
     exact zc2 rfl rfl (congrArg Value.bool (decide_eq_false fun hm => by have := (hiff.1 hm).1; cases this).symm)
    | true =>
     by_cases c1 : nv = 0
     ·by_cases c2 : nd = nk + 1
      ·by_cases c3 : 1 ≤ nk
       ·refine goA ?_
        refine zfc (by kernel_rfl) ?_
        refine goE ?_
        refine zau 28 ⟨by kernel_rfl, by decide⟩ rfl rfl (zag rfl (by kernel_rfl) rfl (fun w1 hw1 => hfan w1)) (fun _ _ h => h) fun _ => ?_
        refine goE ?_
        refine zbs (by kernel_rfl) ?_
        refine goA ?_
        exact zc2 rfl rfl (congrArg Value.bool (by rw [Bool.eq_iff_iff, decide_eq_true_iff, decide_eq_true_iff, hiff]; exact ⟨fun h => ⟨rfl, c1, c2, c3, by omega⟩, fun h => by omega⟩))
       ·refine goA ?_
        (refine zfc (by kernel_rfl) ?_; refine goE ?_; refine zbs (by kernel_rfl) ?_)
        refine goA ?_
        exact zc2 rfl rfl (congrArg Value.bool (decide_eq_false fun hm => by have := hiff.1 hm; omega).symm)
      ·refine goA ?_
       (refine zfc (by kernel_rfl) ?_; refine goE ?_; refine zbs (by kernel_rfl) ?_)
       refine goA ?_
       exact zc2 rfl rfl (congrArg Value.bool (decide_eq_false fun hm => by have := hiff.1 hm; omega).symm)
     ·refine goA ?_
      (refine zfc (by kernel_rfl) ?_; refine goE ?_; refine zbs (by kernel_rfl) ?_)
      refine goA ?_
      exact zc2 rfl rfl (congrArg Value.bool (decide_eq_false fun hm => by have := hiff.1 hm; omega).symm)
end Go.Proofs.YtkkfifhaobjicaaGreatDoor
