/- law 10: the document's map. Own work; no condition. -/
/- law 10: the document's map: Delete, Put. Own work; no condition. -/
import Derived.Test.YtkkfifhaobjicaaGreatDoorHb46
namespace Go.Eng
open Go.RowKit
theorem qkq {P : Program} {w0 : World} {m : List Item} {l : zat} {n : Nat} {fn : Func} {r q p : ResultVar} {u t v z : Value} (hf : fn.results = #[r, q, p]) (h1 : zfd P l (Hp w0 none' m) r u) (h2 : zfd P l (Hp w0 none' m) q t) (h3 : zfd P l (Hp w0 none' m) p v) (e : z = .tuple #[u, t, v]) : HX (bodyPost P fn (zq4 w0 z)) .ret ⟨n, [], none⟩ l (Hp w0 none' m) :=
 qj6 hf h1 h2 h3 fun _ hw => ⟨by rw [e], hw.fr⟩
end Go.Eng
namespace Go.Proofs.YtkkfifhaobjicaaGreatDoor
open Go.RowKit Go.Eng Go.Eng.Bm Go.Eng.Tr
set_option maxRecDepth 100000
set_option maxHeartbeats 40000000
abbrev Om := Option (Nat × Nat) × Option (Nat × Nat)
def dmC (o : Om) (e : E) : Array Value := #[slV o.1 e.length, slV o.2 e.length]
def dmV (o : Om) (e : E) : Value := .agg (dmC o e)
def dmI (o : Om) (e : E) : List Eng.Item := [own 9 1 o.1 e.length (e.map fun y => kV y.1), own 9 1 o.2 e.length (e.map fun y => kV y.2)]
theorem zgg (o : Om) (e : E) : ∀ it ∈ dmI o e, it.Stable none' := by simp [dmI, zab]
def DmR (w : World) (o : Om) (e : E) : Prop := ∀ it ∈ dmI o e, za2 it w
theorem DmR.k {w : World} {o : Om} {e : E} (h : DmR w o e) : (own 9 1 o.1 e.length (e.map fun y => kV y.1)).prop w := (h _ (.head _)).1
theorem DmR.v {w : World} {o : Om} {e : E} (h : DmR w o e) : (own 9 1 o.2 e.length (e.map fun y => kV y.2)).prop w := (h _ (.tail _ (.head _))).1
theorem DmR.keep {w w0 : World} {m : List Eng.Item} {o : Om} {e : E} (h : DmR w0 o e) (hw : Hp w0 none' m w) : DmR w o e := fun it hm => (h it hm).keep hw
theorem DmR.kat {w w0 : World} {m : List Eng.Item} {b c : Nat} {o2 : Option (Nat × Nat)} {e : E} (h : DmR w0 (some (b, c), o2) e) (hw : Hp w0 none' m w) {i : Nat} {y : K × K} (hy : e[i]? = some y) : w.cell? ⟨b, i, none⟩ = some (kV y.1) :=
 zbo (h.keep hw).k _ _ (by rw [List.getElem?_map, hy]; rfl)
theorem DmR.vat {w w0 : World} {m : List Eng.Item} {b c : Nat} {o1 : Option (Nat × Nat)} {e : E} (h : DmR w0 (o1, some (b, c)) e) (hw : Hp w0 none' m w) {i : Nat} {y : K × K} (hy : e[i]? = some y) : w.cell? ⟨b, i, none⟩ = some (kV y.2) :=
 zbo (h.keep hw).v _ _ (by rw [List.getElem?_map, hy]; rfl)
theorem qki {e : E} {k : K} {i : Nat} {y : K × K} (h : e[i]? = some y) (hi : i ≤ lb (keys e) k) : (kl y.1 k → i + 1 ≤ lb (keys e) k) ∧ (¬ kl y.1 k → i = lb (keys e) k) := by
 induction e generalizing i with
 | nil => simp at h
 | cons p r ih =>
  by_cases hp : kl p.1 k
  ·have hl := zlp (r := r) hp
   cases i with
   | zero =>
    obtain rfl : p = y := by simpa using h
    exact ⟨fun _ => by omega, fun hn => absurd hp hn⟩
   | succ i =>
    have := ih (i := i) (by simpa using h) (by omega)
    exact ⟨fun h1 => by have := this.1 h1; omega, fun h1 => by have := this.2 h1; omega⟩
  ·have hl := zl5 (r := r) hp
   obtain rfl : i = 0 := by omega
   obtain rfl : p = y := by simpa using h
   exact ⟨fun h1 => absurd h1 hp, fun _ => by omega⟩
theorem zio (o : Om) (e : E) (key : K) (hb : e.length ≤ 1000000) (w : World) (hr : DmR w o e) : Pu Tryz.prog 48 #[dmV o e, kV key] w (.int .i64 (lb (keys e) key : Nat)) := by
 have hl : lb (keys e) key ≤ e.length := by have := zvj (keys e) key; rwa [keys, List.length_map] at this
 refine zbl [_, _] Tryz.func48 rfl rfl ?_
 obtain ⟨o1, o2⟩ := o
 unfold dmV dmC
 rw [(zav hr.k).1, (zav hr.v).1]
 simp only [zaa, Nat.reduceAdd]
 refine goA ?_
 refine zb0 rfl rfl fun b2 hb2 => ?_
 refine goA ?_
 refine zct (α := Nat) (fun i => [(1, .string (kB key)), (2, .pointer (some ⟨b2, 0, none⟩)), (5, .int .i64 (i : Nat))]) (fun i => i ≤ lb (keys e) key) (fun _ => [pt b2 (.cells #[.slice (slA o1) e.length (slC o1), .slice (slA o2) e.length (slC o2)] 39 (0, 0))]) (fun i => e.length - i) 0 ⟨rfl, rfl, rfl, trivial⟩ (Nat.zero_le _) (fun w' hw' => hw') fun i hi => ?_
 by_cases hlt : i < e.length
 ·obtain ⟨y, hy⟩ : ∃ y, e[i]? = some y := ⟨_, List.getElem?_eq_getElem hlt⟩
  obtain ⟨b, c, rfl⟩ := zbq hr.k (by omega)
  simp only [zga, zf3]
  obtain ⟨q1, q2⟩ := qki (k := key) hy hi
  refine goA ?_
  refine l_w rfl (zaz (v := .string (kB y.1)) rfl rfl (fun w' hw' => hr.kat hw' (by rw [Nat.zero_add]; exact hy))) ?_
  refine goA ?_
  rw [ze2, ze2, zrn]
  by_cases hk : kl y.1 key
  ·rw [decide_eq_true hk]
   refine goA ?_
   exact zay (i + 1) ⟨rfl, rfl, rfl, trivial⟩ (q1 hk) (fun w' hw' => hw') (by omega)
  ·rw [decide_eq_false hk]
   refine goA ?_
   rw [q2 hk]
   exact zc2 rfl rfl rfl
 ·refine goA ?_
  obtain rfl : i = lb (keys e) key := by omega
  exact zc2 rfl rfl rfl
theorem qlh {e : E} (h : Es e) (k : K) : (fd (keys e) k = false → zlo e k = none) ∧ (fd (keys e) k = true → ∃ v, e[lb (keys e) k]? = some (k, v) ∧ zlo e k = some v) :=
 ⟨fun hf => ((zna h).2 hf).1, fun hf => let ⟨v, h1, h2, _⟩ := (zna h).1 hf; ⟨v, h1, h2⟩⟩
theorem zr8 (o : Om) (e : E) (he : Es e) (key : K) (hb : e.length ≤ 1000000) (w : World) (hr : DmR w o e) : Pu Tryz.prog 24 #[dmV o e, kV key] w (.tuple #[kV ((zlo e key).getD []), .bool (zlo e key).isSome]) := by
 obtain ⟨g1, g2⟩ := qlh he key
 have hl : lb (keys e) key ≤ e.length := by have := zvj (keys e) key; rwa [keys, List.length_map] at this
 refine zbl [_, _] Tryz.func24 rfl rfl ?_
 obtain ⟨o1, o2⟩ := o
 unfold dmV dmC
 simp only [zaa, Nat.reduceAdd]
 refine goA ?_
 refine zb0 rfl rfl fun b2 hb2 => ?_
 refine goA ?_
 refine zae rfl (zag rfl (by kernel_rfl) rfl (fun w1 hw1 => zio (o1, o2) e key hb w1 (hr.keep hw1))) fun _ => ?_
 refine goA ?_
 rw [(zav hr.k).1, (zav hr.v).1]
 by_cases hlt : lb (keys e) key < e.length
 ·obtain ⟨y, hy⟩ : ∃ y, e[lb (keys e) key]? = some y := ⟨_, List.getElem?_eq_getElem hlt⟩
  obtain ⟨b, cc, rfl⟩ := zbq hr.k (by omega)
  obtain ⟨b', cc', rfl⟩ := zbq hr.v (by omega)
  simp only [zga, zf3]
  have hky : (keys e)[lb (keys e) key]? = some y.1 := (List.getElem?_map ..).trans (by rw [hy]; rfl)
  refine goA ?_
  refine l_w rfl (zaz (v := .string (kB y.1)) rfl rfl (fun w' hw' => hr.kat hw' (by rw [Nat.zero_add]; exact hy))) ?_
  refine goA ?_
  refine zdc 21 _ (.string (kB key)) rfl rfl ?_
  refine goA ?_
  rw [show seq (kB y.1) (kB key) = decide (y.1 = key) from zjx y.1 key]
  by_cases hk : y.1 = key
  ·rw [decide_eq_true hk]
   obtain ⟨v, h1, h2⟩ := g2 (ziq.2 (by rw [hky, hk]))
   rw [hy] at h1
   cases h1
   refine goA ?_
   refine l_w rfl (zaz (v := kV v) rfl rfl (fun w' hw' => hr.vat (y := (key, v)) hw' (by rw [Nat.zero_add]; exact hy))) ?_
   refine goA ?_
   rw [h2]
   exact zg8 rfl rfl rfl rfl
  ·rw [decide_eq_false hk]
   rw [g1 (by cases hf : fd (keys e) key with | false => rfl | true => have := ziq.1 hf; rw [hky] at this; cases this; exact absurd rfl hk)]
   refine goA ?_
   exact zg8 rfl rfl rfl rfl
 ·rw [g1 (by cases hf : fd (keys e) key with | false => rfl | true => obtain ⟨v, h1, -⟩ := g2 hf; exact absurd (List.getElem?_eq_some_iff.1 h1).1 hlt)]
  have he2 : lb (keys e) key = e.length := by omega
  rw [he2]
  refine goA ?_
  exact zg8 rfl rfl rfl rfl
theorem zyh (o : Om) (e : E) (key : K) (also : Bool) (hb : e.length ≤ 1000000) (w : World) (hr : DmR w o e) : Pu Tryz.prog 26 #[dmV o e, kV key, .bool also] w (.tuple #[kV (((zia e key also).map (·.1)).getD []), kV (((zia e key also).map (·.2)).getD []), .bool (zia e key also).isSome]) := by
 refine zbl [_, _, _] Tryz.func26 rfl rfl ?_
 obtain ⟨o1, o2⟩ := o
 unfold dmV dmC
 rw [(zav hr.k).1, (zav hr.v).1]
 simp only [zaa, Nat.reduceAdd]
 refine goA ?_
 refine zb0 rfl rfl fun b3 hb3 => ?_
 refine goA ?_
 refine zct (α := Nat) (fun i => [(1, .string (kB key)), (2, .bool also), (3, .pointer (some ⟨b3, 0, none⟩)), (9, .int .i64 (i : Nat))]) (fun i => i ≤ e.length ∧ zia e key also = zia (e.drop i) key also) (fun _ => [pt b3 (.cells #[.slice (slA o1) e.length (slC o1), .slice (slA o2) e.length (slC o2)] 39 (0, 0))]) (fun i => e.length - i) 0 ⟨rfl, rfl, rfl, rfl, trivial⟩ ⟨Nat.zero_le _, rfl⟩ (fun w' hw' => hw') fun i ⟨hi, hf⟩ => ?_
 by_cases hlt : i < e.length
 ·obtain ⟨y, hy⟩ : ∃ y, e[i]? = some y := ⟨_, List.getElem?_eq_getElem hlt⟩
  have hd : e.drop i = y :: e.drop (i + 1) := by rw [List.drop_eq_getElem_cons hlt, (List.getElem?_eq_some_iff.1 hy).2]
  rw [hd] at hf
  obtain ⟨b, cc, rfl⟩ := zbq hr.k (by omega)
  obtain ⟨b', cc', rfl⟩ := zbq hr.v (by omega)
  simp only [zga, zf3]
  refine goA ?_
  refine l_w rfl (zaz (v := .string (kB y.1)) rfl rfl (fun w' hw' => hr.kat hw' (by rw [Nat.zero_add]; exact hy))) ?_
  refine goA ?_
  rw [show seq (kB y.1) (kB key) = decide (y.1 = key) from zjx y.1 key, ze2, ze2, zrn]
  rcases zll y.1 key with hk | hk | hk
  ·have hskip : zia (y :: e.drop (i + 1)) key also = zia (e.drop (i + 1)) key also := by
    unfold zia
    rw [List.find?_cons_of_neg (by simp [ze0 hk, zhg hk])]
   rw [decide_eq_true hk, Bool.true_or, Bool.not_true]
   cases also with
   | false =>
    refine goA ?_
    exact zay (i + 1) ⟨rfl, rfl, rfl, rfl, trivial⟩ ⟨hlt, hf.trans hskip⟩ (fun w' hw' => hw') (by omega)
   | true =>
    refine goA ?_
    refine l_w rfl (zaz (v := .string (kB y.1)) rfl rfl (fun w' hw' => hr.kat hw' (by rw [Nat.zero_add]; exact hy))) ?_
    refine goA ?_
    rw [show seq (kB y.1) (kB key) = decide (y.1 = key) from zjx y.1 key, decide_eq_false (zhg hk)]
    refine goA ?_
    exact zay (i + 1) ⟨rfl, rfl, rfl, rfl, trivial⟩ ⟨hlt, hf.trans hskip⟩ (fun w' hw' => hw') (by omega)
  ·rw [decide_eq_false (by rw [hk]; exact zdu _), decide_eq_true hk, Bool.false_or, Bool.not_true]
   cases also with
   | false =>
    have hskip : zia (y :: e.drop (i + 1)) key false = zia (e.drop (i + 1)) key false := by
     unfold zia
     rw [List.find?_cons_of_neg (by simp [hk, zdu])]
    refine goA ?_
    exact zay (i + 1) ⟨rfl, rfl, rfl, rfl, trivial⟩ ⟨hlt, hf.trans hskip⟩ (fun w' hw' => hw') (by omega)
   | true =>
    have hfind : zia (y :: e.drop (i + 1)) key true = some y := by
     unfold zia
     rw [List.find?_cons_of_pos (by simp [hk])]
    refine goA ?_
    refine l_w rfl (zaz (v := .string (kB y.1)) rfl rfl (fun w' hw' => hr.kat hw' (by rw [Nat.zero_add]; exact hy))) ?_
    refine goA ?_
    rw [show seq (kB y.1) (kB key) = decide (y.1 = key) from zjx y.1 key, decide_eq_true hk]
    refine goA ?_
    refine zaq [0] 13 rfl rfl (by kernel_rfl) ?_
    refine goE ?_
    refine d_v [] rfl rfl (by kernel_rfl) (fun _ h => goH h) rfl rfl (zaz (v := kV y.1) rfl rfl (fun w' hw' => hr.kat hw' (by rw [Nat.zero_add]; exact hy))) ?_
    refine goE ?_
    refine d_v [] rfl rfl (by kernel_rfl) (fun _ h => goH h) rfl rfl (zaz (v := kV y.2) rfl rfl (fun w' hw' => hr.vat (y := y) hw' (by rw [Nat.zero_add]; exact hy))) ?_
    refine goE ?_
    refine zbs (by kernel_rfl) ?_
    refine goA ?_
    rw [hf.trans hfind]
    exact qkq rfl rfl rfl rfl rfl
  ·have hfind : zia (y :: e.drop (i + 1)) key also = some y := by
    unfold zia
    rw [List.find?_cons_of_pos (by simp [hk])]
   rw [decide_eq_false (ze0 hk), decide_eq_false (Ne.symm (zhg hk)), Bool.false_or, Bool.not_false]
   refine goA ?_
   refine zaq [0] 13 rfl rfl (by kernel_rfl) ?_
   refine goE ?_
   refine d_v [] rfl rfl (by kernel_rfl) (fun _ h => goH h) rfl rfl (zaz (v := kV y.1) rfl rfl (fun w' hw' => hr.kat hw' (by rw [Nat.zero_add]; exact hy))) ?_
   refine goE ?_
   refine d_v [] rfl rfl (by kernel_rfl) (fun _ h => goH h) rfl rfl (zaz (v := kV y.2) rfl rfl (fun w' hw' => hr.vat (y := y) hw' (by rw [Nat.zero_add]; exact hy))) ?_
   refine goE ?_
   refine zbs (by kernel_rfl) ?_
   refine goA ?_
   rw [hf.trans hfind]
   exact qkq rfl rfl rfl rfl rfl
 ·rw [List.drop_eq_nil_of_le (by omega)] at hf
  rw [hf]
  refine goA ?_
  exact qkq rfl rfl rfl rfl rfl
end Go.Proofs.YtkkfifhaobjicaaGreatDoor
namespace Go.Eng
open Go.RowKit
section
variable {P : Program} {Q : Exit → Act → World → Prop} {S : World → Prop} {N : Fm} {l : zat} {ops : Array Oper} {w0 : World} {F : Nat → Prop} {m : List Item} {t : Nat} {ty : TypeId} {pos : String} {after : Array Edge}
theorem qng {T T' e : TypeId} {d y : Nat} {a : Option Addr} {k c b : Nat} {news : List Value} {g : Option (Nat × Bool)} (hy : get l y = some (.slice a k c)) (hd : Nat.ble (d + 1) N.n = true) (hT : zka P T = some e) (hi : qbn P e = some (1, b, 1)) (hl : news.length = k) (h0 : a = none → k = 0) (h1 : zbz news = true) (hn : (0 + k) * (b + 1) ≤ 140737488355328)
  (hnews : ∀ w, Hp w0 F (own e 1 none 0 [] :: m) w → Rd w a news) :
  HO P ⟨some d, .call ⟨.builtin .append, #[.const (.slice none 0 0), .tmp y], #[T, T]⟩, T', pos, after, g⟩ Q N l (Hp w0 F (own e 1 none 0 [] :: m)) (α := Option (Nat × Nat)) (fun o' => (d, slV o' (0 + k)) :: l) (fun o' => Hp w0 F (own e 1 o' (0 + k) ([] ++ news) :: m)) :=
 zes (o := none) (by simpa [zfj, zg7, zem, Op.operands, Call.operands, zek, hy] using hd) rfl (c := c) (by simp [evO, hy]) hT hi hl h0 h1 hn hnews
def qm3 (ops : Array Oper) (L : Array Bool) (t i1 i2 : Nat) : Bool :=
 let s := fun (l : Array Bool) k => l.setIfInBounds k true
 let r := fun l => Region.ready .any ops l
 (Nat.blt i1 t && (Nat.blt i2 t && !Nat.beq i1 i2)) && (r L == [i1, i2] && (r (s L i1) == [i2] && r (s L i2) == [i1]))
theorem qj9 (i1 i2 : Nat) {o1 o2 : Oper} {n : Nat} {listed : Array Bool} {α1 α2 : Type} {A : Item} {rest : List Item} {A' : α1 → Item} {X2 : α2 → Item} {d1 d2 : Nat} {u1 : α1 → Value} {u2 : α2 → Value}
  (hq : qm3 ops listed t i1 i2 = true) (n1 : nth ops.toList i1 = some o1) (n2 : nth ops.toList i2 = some o2) (g1 : o1.guard = none) (g2 : o2.guard = none) (e1 : get l d1 = none) (e2 : get l d2 = none) (hne : Nat.beq d1 d2 = false) (hS : ∀ w, Hp w0 F rest w → S w)
  (s1 : ∀ l' X, (∀ t u, get l t = some u → get l' t = some u) → HO P o1 (znl Q) N l' (Hp w0 F (A :: (X ++ rest))) (fun a => (d1, u1 a) :: l') (fun a => Hp w0 F (A' a :: (X ++ rest))))
  (s2 : ∀ l' m', (∀ t u, get l t = some u → get l' t = some u) → HO P o2 (znl Q) N l' (Hp w0 F m') (fun b => (d2, u2 b) :: l') (fun b => Hp w0 F (X2 b :: m')))
  (k : ∀ a b, HD P ops Q S t N n ((listed.setIfInBounds i1 true).setIfInBounds i2 true) ((d2, u2 b) :: (d1, u1 a) :: l) (Hp w0 F (A' a :: X2 b :: rest))) : HD P ops Q S t N (n + 2) listed l (Hp w0 F (A :: rest)) := by
 simp only [qm3, Bool.and_eq_true, beq_iff_eq, Bool.not_eq_true'] at hq
 obtain ⟨⟨b1, b2, b3⟩, q1, q2, q3⟩ := hq
 have b1 := Nat.le_of_ble_eq_true b1
 have b2 := Nat.le_of_ble_eq_true b2
 have nb : ∀ {a b : Nat}, Nat.beq a b = false → a ≠ b := fun h e => by rw [e, Nat.beq_refl] at h; cases h
 have ext : ∀ {d : Nat} (v : Value), get l d = none → ∀ t u, get l t = some u → get ((d, v) :: l) t = some u := fun v hd t u h => by
  rw [zbi, if_neg (fun e => by rw [e, h] at hd; cases hd)]
  exact h
 have sub : ∀ {M : List Item}, rest.Sublist M → ∀ w, Hp w0 F M w → S w := fun hs w hw => hS w (hw.sub hs)
 refine zsl i1 i2 ⟨q1, b1, b2⟩ n1 n2 g1 g2 (s1 l [] fun _ _ h => h) (s2 l _ fun _ _ h => h) (fun a => sub (.cons _ (.refl _))) (fun b => sub (.cons _ (.cons _ (.refl _)))) (fun a => ?_) (fun b => ?_)
 ·refine zau i2 ⟨q2, b2⟩ n2 (by rw [g2]; rfl) (s2 _ _ (ext _ e1)) (fun b => sub (.cons _ (.cons _ (.refl _)))) fun b => ?_
  exact zh6 (.swap _ _ _) (k a b)
 ·refine zh6 (m' := A :: ([X2 b] ++ rest)) (.swap _ _ _) ?_
  refine zau i1 ⟨q3, b1⟩ n1 (by rw [g1]; rfl) (s1 _ [X2 b] (ext _ e2)) (fun a => sub (.cons _ (.cons _ (.refl _)))) fun a => ?_
  rw [Array.setIfInBounds_comm _ _ (Ne.symm (nb b3))]
  have := k a b
  unfold HD at this ⊢
  refine fun inv a' w s hw => this inv a' w ⟨s.size, s.defers, fun t v h => s.slot t v ?_⟩ hw
  rw [zbi] at h ⊢
  by_cases e : d2 = t
  ·rw [if_pos e] at h
   rw [if_neg (fun e' => nb hne (e'.trans e.symm)), zbi, if_pos e]
   exact h
  ·rw [if_neg e, zbi] at h
   by_cases e' : d1 = t
   ·rw [if_pos e'] at h ⊢
    exact h
   ·rw [if_neg e'] at h ⊢
    rw [zbi, if_neg e]
    exact h
end
end Go.Eng
namespace Go.Proofs.YtkkfifhaobjicaaGreatDoor
open Go.RowKit Go.Eng Go.Eng.Bm Go.Eng.Tr
set_option maxRecDepth 100000
set_option maxHeartbeats 40000000
theorem zp3 {w w0 : World} {F : Nat → Prop} {m : List Eng.Item} {o : Om} {e : E} (hw : Hp w0 F m w) (h1 : own 9 1 o.1 e.length (e.map fun y => kV y.1) ∈ m) (h2 : own 9 1 o.2 e.length (e.map fun y => kV y.2) ∈ m) : DmR w o e := by
 intro it hm
 rcases hm with _ | ⟨_, _ | ⟨_, hm⟩⟩
 ·exact za2.of (hw.item _ h1) (zab _ _ _ _ _ _)
 ·exact za2.of (hw.item _ h2) (zab _ _ _ _ _ _)
 ·cases hm
theorem zi8 {e : TypeId} {o : Option (Nat × Nat)} {n : Nat} {xs : List Value} {w : World} (h : (own e 1 o n xs).prop w) (ha : slA o = none) : n = 0 := by
 cases o with
 | none => exact h.2
 | some p => cases ha
theorem zle {a : Option Addr} {r : Bool} {k : Nat} (h : zqr a r k = none) : a = none := by
 unfold zqr at h
 split at h
 ·exact h
 ·cases a with
  | none => rfl
  | some _ => cases h
theorem qjl (l : E) (f : K × K → K) : zbz (l.map fun y => kV (f y)) = true := za4.2 fun v hv => by obtain ⟨y, -, rfl⟩ := List.mem_map.1 hv; rfl
theorem qpg {l : List Value} (h : zbz l = true) (i : Nat) : zbz (l.take i) = true := za4.2 fun v hv => za4.1 h v (List.mem_of_mem_take hv)
theorem qpb {l : List Value} (h : zbz l = true) (i : Nat) : zbz (l.drop i) = true := za4.2 fun v hv => za4.1 h v (List.mem_of_mem_drop hv)
theorem zmd (a b : Option (Nat × Nat)) (n : Nat) : zbz [slV a n, slV b n] = true := za4.2 fun v hv => by
 rcases hv with _ | ⟨_, _ | ⟨_, hv⟩⟩
 ·exact zdf _ _
 ·exact zdf _ _
 ·cases hv
theorem qqx {e : E} {i : Nat} (h : i < e.length) : 0 + i + (e.length - (i + 1)) = (e.eraseIdx i).length := by rw [List.length_eraseIdx, if_pos h]; omega
theorem qqo {e : E} (f : K × K → K) {i : Nat} (h : i < e.length) (o : Option (Nat × Nat)) : own 9 1 o (0 + i + (e.length - (i + 1))) ([] ++ (e.map fun y => kV (f y)).take i ++ (e.map fun y => kV (f y)).drop (i + 1)) = own 9 1 o (e.eraseIdx i).length ((e.eraseIdx i).map fun y => kV (f y)) := by
 rw [qqx h, List.nil_append, List.eraseIdx_eq_take_drop_succ, List.map_append, List.map_take, List.map_drop]
theorem zsc (o : Om) (e : E) (he : Es e) (key : K) (hb : e.length ≤ 1000000) (w : World) (hw : ∀ it ∈ dmI o e, za2 it w) (ha : (dmI o e).Pairwise Eng.Item.Apart) :
  Ct Tryz.prog 20 #[dmV o e, kV key] w (zap (dmI o e)) (fun o' : Om => .tuple #[dmV o' (zcy e key), .bool (zlo e key).isSome]) (fun _ => True) (fun o' => dmI o' (zcy e key)) := by
 obtain ⟨r1, r2⟩ := zna (k := key) he
 have hl : lb (keys e) key ≤ e.length := by have := zvj (keys e) key; rwa [keys, List.length_map] at this
 have hR : DmR w o e := hw
 have k1 := zav hR.k
 have k2 := zav hR.v
 obtain ⟨o1, o2⟩ := o
 have k1b : e.length ≤ slC o1 := k1.2
 have k2b : e.length ≤ slC o2 := k2.2
 refine zbd [_, _] _ Tryz.func20 rfl rfl hw ha ?_
 unfold dmV dmC dmI
 rw [k1.1, k2.1]
 simp only [zaa, Nat.reduceAdd]
 refine goA ?_
 refine zb0 rfl rfl fun b2 hb2 => ?_
 refine zan rfl rfl fun b4 hb4 => ?_
 refine goA ?_
 refine zae rfl (zag rfl (by kernel_rfl) rfl (fun w1 hw1 => by
  have := zr8 (o1, o2) e he key hb w1 (zp3 hw1 mm mm)
  unfold dmV dmC at this
  rwa [k1.1, k2.1] at this)) fun _ => ?_
 refine goA ?_
 cases hf : fd (keys e) key with
 | false =>
  obtain ⟨g1, -, g3⟩ := r2 hf
  rw [g1, g3]
  refine goA ?_
  refine za0 rfl (zai (cs' := #[.slice (slA o1) e.length (slC o1), .slice (slA o2) e.length (slC o2)]) rfl rfl rfl rfl rfl rfl) fun _ => ?_
  refine goA ?_
  exact zdq (o1, o2) rfl ⟨_, rfl, zas rfl mm⟩ rfl (by rw [k1.1, k2.1]; rfl) trivial (.cons _ (.cons _ (.refl _))) (zgg (o1, o2) e)
 | true =>
  obtain ⟨v, h1, g1, -, g3⟩ := r1 hf
  have hlt := (List.getElem?_eq_some_iff.1 h1).1
  rw [g1, g3]
  refine goA ?_
  refine zae rfl (zag rfl (by kernel_rfl) rfl (fun w1 hw1 => by
   have := zio (o1, o2) e key hb w1 (zp3 hw1 mm mm)
   unfold dmV dmC at this
   rwa [k1.1, k2.1] at this)) fun _ => ?_
  refine goA ?_
  refine zan rfl rfl fun b9 hb9 => ?_
  refine goA ?_
  refine zr3 9 1 ?_
  refine zaq [1, 2, 3, 4, 5] 12 rfl rfl (by kernel_rfl) ?_
  refine goE ?_
  refine zau 4 ⟨by kernel_rfl, by decide⟩ rfl rfl (zes (o := none) (n := 0) (xs := []) (news := (e.map fun y => kV y.1).take (lb (keys e) key)) rfl rfl rfl rfl rfl (by rw [List.length_take, List.length_map]; omega) (fun h => by have := zi8 hR.k h; omega) (qpg (qjl e (fun y => y.1)) _) (by omega) (fun w' hw' => (zbn (hw'.item (own 9 1 o1 e.length (e.map fun y => kV y.1)) mm).1).take _)) (fun _ _ h => goH h) fun o3 => ?_
  refine goE ?_
  refine zau 10 ⟨by kernel_rfl, by decide⟩ rfl rfl (zes (news := (e.map fun y => kV y.1).drop (lb (keys e) key + 1)) rfl rfl rfl rfl rfl (by rw [List.length_drop, List.length_map]) (fun h => by have := zi8 hR.k (zle h); omega) (qpb (qjl e (fun y => y.1)) _) (by omega) (fun w' hw' => zgz (hw'.item (own 9 1 o1 e.length (e.map fun y => kV y.1)) mm).1 _)) (fun _ _ h => goH h) fun o4 => ?_
  rw [qqo (fun y => y.1) hlt]
  refine goE ?_
  refine zdk ⟨by kernel_rfl, by kernel_rfl⟩ rfl rfl (zak (zci _ _ _) (zaj rfl rfl rfl rfl (zc0 _ _) (zdf _ _) (by simp))) fun _ => ?_
  refine goA ?_
  refine zr3 9 1 ?_
  refine zaq [1, 2, 3, 4, 5, 6] 12 rfl rfl (by kernel_rfl) ?_
  refine goE ?_
  refine zau 4 ⟨by kernel_rfl, by decide⟩ rfl rfl (zes (o := none) (n := 0) (xs := []) (news := (e.map fun y => kV y.2).take (lb (keys e) key)) rfl rfl rfl rfl rfl (by rw [List.length_take, List.length_map]; omega) (fun h => by have := zi8 hR.v h; omega) (qpg (qjl e (fun y => y.2)) _) (by omega) (fun w' hw' => (zbn (hw'.item (own 9 1 o2 e.length (e.map fun y => kV y.2)) mm).1).take _)) (fun _ _ h => goH h) fun o5 => ?_
  refine goE ?_
  refine zau 10 ⟨by kernel_rfl, by decide⟩ rfl rfl (zes (news := (e.map fun y => kV y.2).drop (lb (keys e) key + 1)) rfl rfl rfl rfl rfl (by rw [List.length_drop, List.length_map]) (fun h => by have := zi8 hR.v (zle h); omega) (qpb (qjl e (fun y => y.2)) _) (by omega) (fun w' hw' => zgz (hw'.item (own 9 1 o2 e.length (e.map fun y => kV y.2)) mm).1 _)) (fun _ _ h => goH h) fun o6 => ?_
  rw [qqo (fun y => y.2) hlt]
  refine goE ?_
  refine zdk ⟨by kernel_rfl, by kernel_rfl⟩ rfl rfl (zak (zci _ _ _) (zaj rfl rfl rfl rfl (zc0 _ _) (zdf _ _) (by simp))) fun _ => ?_
  refine goA ?_
  rw [qqx hlt]
  refine zdc 46 _ (.agg #[slV o4 (e.eraseIdx (lb (keys e) key)).length, slV o6 (e.eraseIdx (lb (keys e) key)).length]) rfl rfl ?_
  refine za0 rfl (zak (zdl _ _ _ _ _) (zai (cs' := #[slV o4 (e.eraseIdx (lb (keys e) key)).length, slV o6 (e.eraseIdx (lb (keys e) key)).length]) rfl rfl rfl rfl (zmd _ _ _) rfl)) fun _ => ?_
  refine goA ?_
  refine zeh [3, 2, 0] rfl rfl ?_
  exact zdq (o4, o6) rfl ⟨_, rfl, zas rfl mm⟩ rfl rfl trivial (.cons_cons _ (.cons_cons _ (.cons _ (.refl _)))) (zgg (o4, o6) _)
theorem qqq {e : E} {i : Nat} (y : K × K) (h : i ≤ e.length) : 0 + i + 1 + (e.length - i) = (ins e i y).length := by rw [ins, List.length_append, List.length_cons, List.length_take, List.length_drop]; omega
theorem qqw {e : E} (f : K × K → K) {i : Nat} (y : K × K) (h : i ≤ e.length) (o : Option (Nat × Nat)) : own 9 1 o (0 + i + 1 + (e.length - i)) ([] ++ (e.map fun y => kV (f y)).take i ++ [kV (f y)] ++ (e.map fun y => kV (f y)).drop i) = own 9 1 o (ins e i y).length ((ins e i y).map fun y => kV (f y)) := by
 rw [qqq y h, List.nil_append, ins, List.map_append, List.map_cons, List.map_take, List.map_drop, List.append_assoc]
 rfl
theorem qch (o : Om) (e : E) (he : Es e) (key val : K) (hb : e.length ≤ 1000000) (w : World) (hw : ∀ it ∈ dmI o e, za2 it w) (ha : (dmI o e).Pairwise Eng.Item.Apart) :
  Ct Tryz.prog 27 #[dmV o e, kV key, kV val] w (zap (dmI o e)) (fun o' : Om => dmV o' (zfl e key val)) (fun _ => True) (fun o' => dmI o' (zfl e key val)) := by
 have hR : DmR w o e := hw
 have k1 := zav hR.k
 have k2 := zav hR.v
 have hlen : (zcy e key).length ≤ e.length := List.length_filter_le _ _
 have hl : lb (keys (zcy e key)) key ≤ (zcy e key).length := by have := zvj (keys (zcy e key)) key; rwa [keys, List.length_map] at this
 rw [qh9 he]
 obtain ⟨o1, o2⟩ := o
 have hdel := zsc (o1, o2) e he key hb
 unfold dmV dmC at hdel
 rw [k1.1, k2.1] at hdel
 refine zbd [_, _, _] _ Tryz.func27 rfl rfl hw ha ?_
 unfold dmV dmC
 rw [k1.1, k2.1]
 simp only [zaa, Nat.reduceAdd]
 refine goA ?_
 refine zb0 rfl rfl fun b3 hb3 => ?_
 refine zan rfl rfl fun b6 hb6 => ?_
 refine goA ?_
 refine zju (List.perm_append_comm (l₁ := [_, _]) (l₂ := dmI (o1, o2) e)) ?_
 refine zae rfl (zba (pre := dmI (o1, o2) e) rfl (by kernel_rfl) rfl (zgg _ _) (fun w1 hw1 hh1 ha1 => hdel w1 hh1 ha1)) fun ⟨⟨p1, p2⟩, _⟩ => ?_
 simp only
 unfold dmI
 simp only [List.cons_append, List.nil_append]
 refine goA ?_
 refine za0 rfl (zak (zdl _ _ _ _ _) (zai (cs' := #[slV p1 (zcy e key).length, slV p2 (zcy e key).length]) rfl rfl rfl rfl (zmd _ _ _) rfl)) fun _ => ?_
 refine goA ?_
 refine zae rfl (zag rfl (by kernel_rfl) rfl (fun w1 hw1 => zio (p1, p2) (zcy e key) key (by omega) w1 (zp3 hw1 mm mm))) fun _ => ?_
 refine goA ?_
 refine zan rfl rfl fun b8 hb8 => ?_
 refine goA ?_
 refine zf2 (fun w hw => And.intro (And.intro (zav (hw.item (own 9 1 p1 (zcy e key).length ((zcy e key).map fun y => kV y.1)) mm).1) (zi8 (hw.item (own 9 1 p1 (zcy e key).length ((zcy e key).map fun y => kV y.1)) mm).1)) (And.intro (zav (hw.item (own 9 1 p2 (zcy e key).length ((zcy e key).map fun y => kV y.2)) mm).1) (zi8 (hw.item (own 9 1 p2 (zcy e key).length ((zcy e key).map fun y => kV y.2)) mm).1))) fun ⟨⟨⟨f1, f3⟩, f5⟩, ⟨⟨f2, f4⟩, f6⟩⟩ => ?_
 rw [f1, f2]
 refine zr3 9 1 ?_
 refine zaq [1, 2, 3, 4, 5] 14 rfl rfl (by kernel_rfl) ?_
 refine goE ?_
 refine qj9 4 6 (by kernel_rfl) rfl rfl rfl rfl rfl rfl rfl (fun _ h => h) (fun l' X hl' => qng (news := ((zcy e key).map fun y => kV y.1).take (lb (keys (zcy e key)) key)) (hl' 21 _ rfl) rfl rfl rfl (by rw [List.length_take, List.length_map]; omega) (fun h => by have := f5 h; omega) (qpg (qjl _ (fun y => y.1)) _) (by omega) (fun w' hw' => (zbn (hw'.item (own 9 1 p1 (zcy e key).length ((zcy e key).map fun y => kV y.1)) (.tail _ (List.mem_append_right _ (.tail _ (.tail _ (.head _)))))).1).take _)) (fun l' m' hl' => znk (v := kV key) (hl' 23 _ rfl) rfl rfl rfl rfl) fun o3 ⟨q1, _⟩ => ?_
 refine zau 7 ⟨by kernel_rfl, by decide⟩ rfl rfl (zdj (news := [kV key]) rfl rfl rfl rfl rfl rfl rfl rfl (by omega) (fun w' hw' j v hj => by rw [zc8, Nat.zero_add]; exact zbo (hw'.item (own 9 1 (some (q1, 1)) 1 [kV key]) (.tail _ (.head _))).1 j v hj)) (fun _ _ h => goH h) fun o4 => ?_
 refine zau 12 ⟨by kernel_rfl, by decide⟩ rfl rfl (zes (news := ((zcy e key).map fun y => kV y.1).drop (lb (keys (zcy e key)) key)) rfl rfl rfl rfl rfl (by rw [List.length_drop, List.length_map]) (fun h => by have := f5 (zle h); omega) (qpb (qjl _ (fun y => y.1)) _) (by omega) (fun w' hw' => zgz (hw'.item (own 9 1 p1 (zcy e key).length ((zcy e key).map fun y => kV y.1)) mm).1 _)) (fun _ _ h => goH h) fun o5 => ?_
 rw [qqw (fun y => y.1) (key, val) hl]
 refine goE ?_
 refine zdk ⟨by kernel_rfl, by kernel_rfl⟩ rfl rfl (zak (zc9 _ _ _ _) (zaj rfl rfl rfl rfl (zc0 _ _) (zdf _ _) (by simp))) fun _ => ?_
 refine goA ?_
 refine zr3 9 1 ?_
 refine zaq [1, 2, 3, 4, 5, 6, 7] 14 rfl rfl (by kernel_rfl) ?_
 refine goE ?_
 refine qj9 4 6 (by kernel_rfl) rfl rfl rfl rfl rfl rfl rfl (fun _ h => h) (fun l' X hl' => qng (news := ((zcy e key).map fun y => kV y.2).take (lb (keys (zcy e key)) key)) (hl' 35 _ rfl) rfl rfl rfl (by rw [List.length_take, List.length_map]; omega) (fun h => by have := f6 h; omega) (qpg (qjl _ (fun y => y.2)) _) (by omega) (fun w' hw' => (zbn (hw'.item (own 9 1 p2 (zcy e key).length ((zcy e key).map fun y => kV y.2)) (.tail _ (List.mem_append_right _ (.tail _ (.tail _ (.tail _ (.tail _ (.tail _ (.head _))))))))).1).take _)) (fun l' m' hl' => znk (v := kV val) (hl' 37 _ rfl) rfl rfl rfl rfl) fun o6 ⟨q2, _⟩ => ?_
 refine zau 7 ⟨by kernel_rfl, by decide⟩ rfl rfl (zdj (news := [kV val]) rfl rfl rfl rfl rfl rfl rfl rfl (by omega) (fun w' hw' j v hj => by rw [zc8, Nat.zero_add]; exact zbo (hw'.item (own 9 1 (some (q2, 1)) 1 [kV val]) (.tail _ (.head _))).1 j v hj)) (fun _ _ h => goH h) fun o7 => ?_
 refine zau 12 ⟨by kernel_rfl, by decide⟩ rfl rfl (zes (news := ((zcy e key).map fun y => kV y.2).drop (lb (keys (zcy e key)) key)) rfl rfl rfl rfl rfl (by rw [List.length_drop, List.length_map]) (fun h => by have := f6 (zle h); omega) (qpb (qjl _ (fun y => y.2)) _) (by omega) (fun w' hw' => zgz (hw'.item (own 9 1 p2 (zcy e key).length ((zcy e key).map fun y => kV y.2)) mm).1 _)) (fun _ _ h => goH h) fun o8 => ?_
 rw [qqw (fun y => y.2) (key, val) hl]
 refine goE ?_
 refine zdk ⟨by kernel_rfl, by kernel_rfl⟩ rfl rfl (zak (zc9 _ _ _ _) (zaj rfl rfl rfl rfl (zc0 _ _) (zdf _ _) (by simp))) fun _ => ?_
 refine goA ?_
 rw [qqq (key, val) hl]
 refine zdc 46 _ (.agg #[slV o5 (ins (zcy e key) (lb (keys (zcy e key)) key) (key, val)).length, slV o8 (ins (zcy e key) (lb (keys (zcy e key)) key) (key, val)).length]) rfl rfl ?_
 refine za1 [8, 0, 1, 3] rfl rfl ?_
 refine za0 rfl (zai (cs' := #[slV o5 (ins (zcy e key) (lb (keys (zcy e key)) key) (key, val)).length, slV o8 (ins (zcy e key) (lb (keys (zcy e key)) key) (key, val)).length]) rfl rfl rfl rfl (zmd _ _ _) rfl) fun _ => ?_
 refine goA ?_
 refine zeh [3, 2, 0] rfl rfl ?_
 exact zbw (o5, o8) rfl ⟨_, rfl, zas rfl mm⟩ rfl trivial (.cons_cons _ (.cons_cons _ (.cons _ (.refl _)))) (zgg (o5, o8) _)
end Go.Proofs.YtkkfifhaobjicaaGreatDoor
