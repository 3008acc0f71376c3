/- Parts: law 16; A region that draws. No condition. -/
import Derived.Test.YthafakdplhdfjaaGreatDoorHd15
import Derived.Test.YthafakdplhdfjaaGreatDoorHd02
set_option maxRecDepth 100000
set_option maxHeartbeats 40000000
namespace Go.Proofs.YthafakdplhdfjaaGreatDoor
open Go.RowKit Go.Eng Go.Eng.Bm Go.Eng.Tr
variable {n : Nat} {g : Sg} {r : List Rt} {x : Rt}
theorem qn2 (h : FoV n g r) (hN : n ≤ 1024) {k m : Nat} (hk : zq9 r ≤ m) (hK : m ≤ 5 * 2 ^ k) (hn : (4 * (m / 5) + 32) / 3 + k + 4 < n) (h16 : k < 16) {i : Nat} (hx : r[i]? = some x) (f : K) : qnd (fSh i) n g f (zbj x : Nat) (geE (zdb x) f) := by
 have hi : i < 8 := by rw [← h.len]; exact (aJ.1 hx).1
 have q2 := (h.room hk hK hn h16 hx).2
 obtain ⟨hr, hrep, -⟩ := h.ok i x hx
 have hlow := h.low hx
 have hs := znw hi
 match x, hr, hrep, hlow, q2 with
 | none, _, _, _, _ => exact .inl ⟨rfl, rfl⟩
 | some ⟨hh, t⟩, hr, hrep, hlow, q2 =>
  have hr : TOk (fSh i) t := hr
  have hlow : ∀ x ∈ pgs t, 1 ≤ x ∧ x < n := hlow
  refine .inr ⟨pg t, rfl, ?_, ?_⟩
  ·have := (hlow (pg t) (zcj t)).1
   omega
  ·show qp4 (fSh i) n g f 16 (pg t) (geE (ents t) f)
   rw [← qfa t f hr.ord]
   exact ql5 hs.kw hN t hr.ord hr.wd hr.below hr.le hr.two (fun h' => by show 2 ≤ (fSh i).fan / 2; have := hs.h4; omega) hrep hlow 16 q2
theorem qtv (e : E) : geE e [] = e := by
 unfold geE
 exact cT.2 fun q _ => by
  have : ¬ kl q.1 [] := fun h => by obtain ⟨a, b⟩ := q; cases a <;> cases h
  simpa using this
theorem qkk (k : K) : (⟨k.toArray⟩ : ByteArray) = kB k := rfl
abbrev smI (b6 b3 b5 b7 : Nat) (o1 o2 : Option (Nat × Nat)) (L : Cl) (x : Nat × Bys) : List Eng.Item := [pt b6 (.cells #[.bool true] 4 (0, 0)), pt b3 (.cells #[slV o1 L.length, slV o2 L.length] 30 (0, 0)), pt b5 (.cells #[.int .i64 (x.1 : Nat)] 3 (0, 0)), pt b7 (.cells #[.string (kB x.2)] 9 (0, 0)), zoi o1 L, zou o2 L]
variable {L : Cl}
theorem zwv (b6 b3 b5 b7 : Nat) (o1 o2 : Option (Nat × Nat)) (hL : ∀ p ∈ L, p.1.length = 32) (hn : L.length ≤ 1000) (i : Nat) (hi : i ≤ 1000) (last hb : Bys) (hbl : hb.length = 32) (m : Nat) (h0 : 0 < m) (hm : m < 4294967296) (hc : zga L hb = m) (hk : i ≠ 0 → kl last hb) :
  Cw Tryz.prog 48 #[zlb hb, .int .u32 (m : Nat), .pointer (some ⟨b6, 0, none⟩), .pointer (some ⟨b3, 0, none⟩), .pointer (some ⟨b5, 0, none⟩), .pointer (some ⟨b7, 0, none⟩)] [zef (smI b6 b3 b5 b7 o1 o2 L (i, last))] (fun x : Bool × Nat × Bys => .bool x.1) (fun x => x = (true, i + 1, hb)) (fun x => [zef (smI b6 b3 b5 b7 o1 o2 L x.2)]) := by
 refine qnp [_, _, _, _, _, _] Tryz.func48 rfl fun w0 => ?_
 simp only [zaa]
 refine zg8 (m' := smI b6 b3 b5 b7 o1 o2 L (i, last)) (fun _ h => Hp.open1 h) ?_
 refine zhm (fun w hw => And.intro (zas (hw.item (zoi o1 L) mm).1).1 (zas (hw.item (zou o2 L) mm).1).1) fun ⟨f1, f2⟩ => ?_
 unfold zlb
 refine goA ?_
 refine zbp rfl rfl fun b9 hb9 => ?_
 refine goA ?_
 unfold smI
 dsimp only
 rw [f1, f2]
 refine ziv [pt b3 _, pt b5 _, pt b7 _, pt b9 _, zoi o1 L, zou o2 L] 99 ?_
 refine dV 0 ?_
 refine goP ?_
 refine dV 5 (hv := zcw rfl (by rw [aZ, aD, hbl]; rfl) (.head _)) ?_
 refine dPF 6 (fun w1 hw1 => zko L hL oQ hb hbl (slA o1) (slA o2) (slC o1) (slC o2) w1 (za8 (hw1.item (zoi o1 L) mm).1) (za8 (hw1.item (zou o2 L) mm).1)) ?_
 rw [hc]
 refine goP ?_
 rw [beq_self_eq_true]
 refine goP ?_
 rw [decide_eq_true (show ((m : Nat) : Int) > 0 by omega)]
 refine goP ?_
 by_cases hi0 : i = 0
 ·subst hi0
  rw [show (((0 : Nat) : Int) == 0) = true from rfl]
  refine goP ?_
  refine dS1 23 ?_
  refine goQ ?_
  refine l_w rfl (zg9 rfl rfl rfl rfl) ?_
  refine goA ?_
  refine l_w rfl (zlp (bs := hb) rfl hbl.symm rfl rfl rfl (fun w' hw' => zmu (hw'.item (haC b9 hb) mm).1)) ?_
  refine goB ?_
  rw [← f1, ← f2, qkk]
  refine qi6 (smI b6 b3 b5 b7 o1 o2 L (0 + 1, hb)) ?_
  exact xC (true, 0 + 1, hb) rfl
 ·rw [show (((i : Nat) : Int) == 0) = false by simpa using hi0]
  refine goP ?_
  refine dVP rfl rfl (zg9 rfl rfl rfl rfl) ?_
  refine dVP rfl rfl (zlp (bs := hb) rfl hbl.symm rfl rfl rfl (fun w' hw' => zmu (hw'.item (haC b9 hb) mm).1)) ?_
  refine goP ?_
  rw [qkk, zjt, zjt, qmh, qgw, decide_eq_false (zhf (hk hi0)), decide_eq_false (Ne.symm (zi8 (hk hi0))), show (!(false || false)) = true from rfl]
  refine goP ?_
  refine dS1 23 ?_
  refine goQ ?_
  refine l_w rfl (zg9 rfl rfl rfl rfl) ?_
  refine goA ?_
  refine l_w rfl (zlp (bs := hb) rfl hbl.symm rfl rfl rfl (fun w' hw' => zmu (hw'.item (haC b9 hb) mm).1)) ?_
  refine goB ?_
  rw [← f1, ← f2, qkk]
  refine qi6 (smI b6 b3 b5 b7 o1 o2 L (i + 1, hb)) ?_
  exact xC (true, i + 1, hb) rfl
theorem qf7 : ∀ {e : E} {y : K × K}, Es e → y ∈ e → zi6 e y.1 = some y.2
 | p :: r, y, hs, hy => by
  unfold zi6
  rcases aI.1 hy with rfl | hy
  ·simp
  ·have h1 := zi8 ((zpm hs).1 y hy)
   rw [gR (by simpa using h1)]
   exact qf7 (zpm hs).2 hy
theorem qqg {m k : Nat} (hm : m < 4294967296) (hk : k < 4294967296) (h : beN 4 m = beN 4 k) : m = k := by
 have h1 := zgc (w := 4) (n := m) oQ []
 have h2 := zgc (w := 4) (n := k) oQ []
 rw [h, h2] at h1
 exact (congrArg (·.1) h1).symm
theorem Rel.ent {e : E} (h : Rel e L) (hs : Es e) {y : K × K} (hy : y ∈ e) : y.1.length = 32 ∧ 0 < zga L y.1 ∧ zga L y.1 < 4294967296 ∧ y.2 = beN 4 (zga L y.1) := by
 have h1 := qf7 hs hy
 rw [h.get] at h1
 obtain ⟨h2, h3⟩ := zlv h.pos y.1
 have h4 : zga L y.1 ≠ 0 := fun e => by rw [e] at h1; cases h1
 unfold cnt? at h1
 rw [if_neg h4] at h1
 obtain ⟨p, hp, hpe⟩ := aP.1 (h3.1 h4)
 exact ⟨hpe ▸ h.l32 p hp, oQ, h2, (cN h1).symm⟩
def qg0 (k : E) : Bys := ((k.getLast?).map (·.1)).getD []
variable {c : Fc} {s : Pg} {busy : Bool} {err : Nat}
theorem zzk (h : Fok c g s) {R : List Nat} {a : Nat} (ha : R[0]? = some a) {xs : E} (hl : qnd (fSh 0) c.N g [] (a : Nat) xs) (hs : Es xs) (hrel : Rel xs L) (hn : L.length ≤ 1000) (o1 o2 : Option (Nat × Nat)) :
  Cw Tryz.prog 14 #[.pointer (some ⟨c.b, 0, none⟩), clV o1 o2 L] [foI c R busy err s, zoi o1 L, zou o2 L] (fun _ : Pg => .bool true) (fun s' => Fok c g s') (fun s' => [foI c R busy err s', zoi o1 L, zou o2 L]) := by
 have hx : ∀ y ∈ xs, y.1.length = 32 ∧ ∃ m, 0 < m ∧ m < 4294967296 ∧ y.2 = beN 4 m := fun y hy => by
  obtain ⟨e1, e2, e3, e4⟩ := hrel.ent hs hy
  exact ⟨e1, _, e2, e3, e4⟩
 refine qnp [_, _] Tryz.func14 rfl fun w0 => ?_
 simp only [zaa]
 refine goA ?_
 refine zbp rfl rfl fun b3 hb3 => ?_
 refine goA ?_
 refine zdg rfl rfl rfl fun b5 hb5 => ?_
 refine goB ?_
 refine zdg rfl rfl rfl fun b6 hb6 => ?_
 refine goB ?_
 refine zdg rfl rfl rfl fun b7 hb7 => ?_
 refine goB ?_
 refine l_w rfl (zhw rfl) ?_
 refine goB ?_
 rw [qkk []]
 refine qod (smI b6 b3 b5 b7 o1 o2 L (0, [])) ?_
 refine lC (zpf h ha hl hx (σ := Nat × Bys) (fun st => zef (smI b6 b3 b5 b7 o1 o2 L st)) (fun k st => st = (k.length, qg0 k)) (fun _ => False) (0, []) (fd := 48) (cs := [.pointer (some ⟨b6, 0, none⟩), .pointer (some ⟨b3, 0, none⟩), .pointer (some ⟨b5, 0, none⟩), .pointer (some ⟨b7, 0, none⟩)]) kQ (fun st => zad _) rfl (fun k y m st hp hy hm hi w2 hh2 => ?_)) fun ⟨s', st⟩ ⟨hs', hst⟩ => ?_
 ·subst hi
  have hlk := hp.length_le
  rw [aA] at hlk
  have hlk : k.length + 1 ≤ xs.length := hlk
  have hlen := hrel.len
  obtain ⟨e1, e2, e3, e4⟩ := hrel.ent hs (hp.subset (aT _ (.head _)))
  have hmk : zga L y.1 = m := qqg e3 hm (e4.symm.trans hy)
  refine Ct.map (zwv b6 b3 b5 b7 o1 o2 hrel.l32 hn k.length oQ (qg0 k) y.1 e1 m oQ hm hmk (fun h0 => ?_) w2 (fun it hm => by rw [aK.1 hm]; exact hh2) (.cons (fun _ h => nomatch h) .nil)) fun z hz => ⟨z, rfl, .inl ⟨by rw [hz], ?_⟩, rfl⟩
  ·obtain ⟨t, ht⟩ := hp
   rw [← ht] at hs
   unfold Es Ks at hs
   rw [bV, bV] at hs
   have h1 := (bQ.1 hs).1
   have h2 := (bQ.1 h1).2.2
   obtain ⟨z, hz⟩ : ∃ z, k.getLast? = some z := by
    cases hq : k.getLast? with
    | none => rw [List.getLast?_eq_none_iff] at hq; subst hq; exact absurd rfl h0
    | some z => exact ⟨z, rfl⟩
   unfold qg0
   rw [hz]
   exact h2 z.1 (aP.2 ⟨z, List.mem_of_getLast? hz, rfl⟩) y.1 (.head _)
  ·show z.2 = _
   rw [hz, aA]
   unfold qg0
   rw [List.getLast?_concat]
   rfl
 ·obtain rfl : st = (xs.length, qg0 xs) := hst.resolve_right fun h => h
  simp only at hs'
  refine goB ?_
  refine lC (fun w hw _ => zt5 hs' ha hl hx (by have := hrel.len; omega) w hw) fun s2 hs2 => ?_
  refine qq3 ?_
  unfold smI
  dsimp only
  rw [hrel.len]
  refine zch (fun w hw => (zas (hw.item (zoi o1 L) mm).1).1) fun f1 => ?_
  rw [f1]
  refine goB ?_
  rw [beq_self_eq_true]
  refine goB ?_
  exact xC s2 hs2
theorem qe9 (i : Int) (v : Value) (w : World) : Ct Tryz.prog 31 #[.pointer none, .int .i64 i, v] w none' (fun _ : Unit => .tuple #[.string ByteArray.empty, .bool false, .int .i64 1]) (fun _ => True) (fun _ => []) := by
 refine zes [_, _, _] Tryz.func31 rfl rfl ?_
 simp only [zaa, Nat.reduceAdd]
 refine goA ?_
 refine lPu rfl (fun w1 hw1 => qoy i w1) ?_
 refine goA ?_
 exact qa6 () rfl rfl rfl rfl rfl trivial (aE _) (fun _ h => nomatch h)
theorem zy9 (hb : Bys) (hbl : hb.length = 32) (w : World) :
  Ct Tryz.prog 12 #[.pointer none, zlb hb] w none' (fun _ : Unit => .tuple #[.int .u32 0, .int .i64 1]) (fun _ => True) (fun _ => []) := by
 refine zes [_, _] Tryz.func12 rfl rfl ?_
 simp only [zaa, Nat.reduceAdd]
 unfold zlb
 refine goA ?_
 refine zbp rfl rfl fun b3 hb3 => ?_
 refine goA ?_
 refine l_w rfl (zg9 rfl rfl rfl rfl) ?_
 refine goA ?_
 refine l_w rfl (zlp (bs := hb) rfl hbl.symm rfl rfl rfl (fun w' hw' => zmu (hw'.item (haC b3 hb) (.head _)).1)) ?_
 refine goA ?_
 refine zdy rfl rfl kQ rfl (fun w1 hw1 => qe9 _ _ w1) fun x hx => ?_
 refine goA ?_
 exact zc1 () rfl rfl rfl rfl trivial (aE _) (fun _ h => nomatch h)
theorem qe8 (hb : Bys) (hbl : hb.length = 32) (by_ : Int) (w : World) :
  Ct Tryz.prog 15 #[.pointer none, zlb hb, .int .i64 by_] w none' (fun _ : Unit => .tuple #[.int .u32 0, .int .i64 1]) (fun _ => True) (fun _ => []) := by
 refine zes [_, _, _] Tryz.func15 rfl rfl ?_
 simp only [zaa, Nat.reduceAdd]
 unfold zlb
 refine goA ?_
 refine zbp rfl rfl fun b3 hb3 => ?_
 refine goA ?_
 refine l_w rfl (zcw rfl (by rw [aZ, aD, hbl]; rfl) (.head _)) ?_
 refine goA ?_
 refine zdy rfl rfl kQ rfl (fun w1 hw1 => zy9 hb hbl w1) fun x hx => ?_
 refine goA ?_
 exact zc1 () rfl rfl rfl rfl trivial (aE _) (fun _ h => nomatch h)
theorem zoa (v : Value) (w : World) :
  Ct Tryz.prog 17 #[.pointer none, v] w none' (fun _ : Unit => .int .i64 1) (fun _ => True) (fun _ => []) := by
 refine zes [_, _] Tryz.func17 rfl rfl ?_
 simp only [zaa, Nat.reduceAdd]
 refine goA ?_
 refine zeh rfl (qkx rfl rfl) fun b3 => ?_
 refine goA ?_
 exact zbd () rfl rfl rfl trivial (aE _) (fun _ h => nomatch h)
theorem qet (a : Addr) (w : World) :
  Ct Tryz.prog 17 #[.pointer (some a), .nilFunc] w none' (fun _ : Unit => .int .i64 1) (fun _ => True) (fun _ => []) := by
 refine zes [_, _] Tryz.func17 rfl rfl ?_
 simp only [zaa, Nat.reduceAdd]
 refine goA ?_
 refine zc9 rfl rfl rfl fun b3 hb3 => ?_
 refine goA ?_
 refine l_w rfl (zwf (v' := .bool true) (ov fun _ _ _ _ _ => rfl) rfl) ?_
 refine goA ?_
 exact zbd () rfl rfl rfl trivial (aE _) (fun _ h => nomatch h)
theorem zzj (w : World) :
  Ct Tryz.prog 16 #[.pointer none] w none' (fun _ : Unit => .tuple #[.int .i64 0, .int .i64 1]) (fun _ => True) (fun _ => []) := by
 refine zes [_] Tryz.func16 rfl rfl ?_
 simp only [zaa]
 refine goA ?_
 refine zdg rfl rfl rfl fun b4 hb4 => ?_
 refine goA ?_
 refine za1 rfl (zai rfl rfl rfl rfl rfl rfl sQ) fun _ => ?_
 refine goA ?_
 refine l_w rfl (zhw rfl) ?_
 refine goA ?_
 refine zdy rfl rfl kQ rfl (fun w1 hw1 => zoa _ w1) fun x hx => ?_
 refine goA ?_
 exact zc1 () rfl rfl rfl rfl trivial (aE _) (fun _ h => nomatch h)
abbrev zvg (L : Cl) (h : Bys) (by_ : Int) (fl : Bool) : Cl := if okC (zga L h) by_ ∧ fl = false then zls L h ((zga L h : Int) + by_).toNat else L
structure Cst (c : Fc) (r : List Rt) (s : Pg) (L : Cl) (n : Nat) : Prop where
 rdy : Rdy c r r s
 N : c.N = 120
 B : c.B ≤ 604 + 601 * n
 rel : ∃ x, r[0]? = some x ∧ Rel (zdb x) L
 tot : zq9 r ≤ n
theorem qnv (h : n = 120) : Few n 64 4 := by subst h; exact ⟨dQ, dQ, dQ, dQ⟩
theorem Cst.len {c : Fc} {r : List Rt} {s : Pg} {L : Cl} {n : Nat} (h : Cst c r s L n) : L.length ≤ n := by
 obtain ⟨x, hx, hr⟩ := h.rel
 rw [← hr.len]
 exact cJ (qmt hx) h.tot
theorem zua (h : Cst c r s L n) (hn : n ≤ 63) {hc : UInt8} {by_ : Int} (hby : -9223372036854775808 ≤ by_ ∧ by_ < 9223372036854775808) {fl : Bool} {o1 o2 : Option (Nat × Nat)} :
  Cw Tryz.prog 11 #[.pointer (some ⟨c.b, 0, none⟩), clV o1 o2 L, .agg #[.int .u8 (hc.toNat : Int), .int .i64 by_, .bool fl]] [foI c (r.map zbj) false err s, ctI, zoi o1 L, zou o2 L]
   (fun y : (Option (Nat × Nat) × Option (Nat × Nat)) × Nat × List Rt × Fc × Pg => .tuple #[clV y.1.1 y.1.2 (zvg L (hsh hc) by_ fl), .bool true]) (fun y => Cst y.2.2.2.1 y.2.2.1 y.2.2.2.2 (zvg L (hsh hc) by_ fl) (n + 1) ∧ y.2.2.2.1.b = c.b)
   (fun y => [foI y.2.2.2.1 (y.2.2.1.map zbj) false y.2.1 y.2.2.2.2, ctI, zoi y.1.1 (zvg L (hsh hc) by_ fl), zou y.1.2 (zvg L (hsh hc) by_ fl)]) := fun w hw ha => by
 obtain ⟨x, hx, hr⟩ := h.rel
 refine (qar h.rdy (by have := h.B; omega) (qnv h.N) (by have := h.tot; omega) hx hr (by have := h.len; omega) hc by_ hby fl err o1 o2 w hw ha).map fun y hy => ⟨y, rfl, ⟨⟨hy.rdy, hy.keep.N.trans h.N, ?_, hy.rel, ?_⟩, hy.keep.b⟩, rfl⟩
 ·have := hy.keep.B
  have := h.B
  omega
 ·have := hy.tot
  have := h.tot
  omega
theorem Cst.at_ (h : Cst c r s L n) : ∃ g x, Fok c g s ∧ FoV c.N g r ∧ r[0]? = some x ∧ Rel (zdb x) L ∧ Es (zdb x) ∧ (r.map zbj)[0]? = some (zbj x) ∧ ∀ s', Fok c g s' → Cst c r s' L n := by
 obtain ⟨g, k1, k2, k3⟩ := h.rdy.now
 obtain ⟨x, hx, hr⟩ := h.rel
 exact ⟨g, x, k1, k2, hx, hr, (k2.ok 0 x hx).2.2, by rw [aO, hx]; rfl, fun s' hs' => ⟨⟨h.rdy.st, g, hs', k2, k3⟩, h.N, h.B, h.rel, h.tot⟩⟩
theorem qmf (h : Cst c r s L n) (hn : n ≤ 64) {hb : Bys} (hbl : hb.length = 32) :
  Cw Tryz.prog 12 #[.pointer (some ⟨c.b, 0, none⟩), zlb hb] [foI c (r.map zbj) busy err s] (fun _ : Pg => .tuple #[.int .u32 (zga L hb : Nat), .int .i64 0]) (fun s' => Cst c r s' L n) (fun s' => [foI c (r.map zbj) busy err s']) := fun w hw _ => by
 obtain ⟨g, x, k1, k2, k3, k4, -, k5, k6⟩ := h.at_
 have hf := qnv h.N
 refine (zsd k1 k5 hb hbl (zlv k4.pos hb).1 ?_ w hw).map fun y hy => ⟨y, rfl, k6 y hy, rfl⟩
 rw [← k4.get]
 exact k2.get hf.le (by have := h.tot; omega) hf.lo hf.rm hf.dp k3 hb
theorem qqd (h : Cst c r s L n) (hn : n ≤ 64) (hv : FoV c.N g r) (hx : r[0]? = some x) : qnd (fSh 0) c.N g [] (zbj x : Nat) (zdb x) := by
 have hf := qnv h.N
 have := qn2 hv hf.le (by have := h.tot; omega) hf.lo hf.rm hf.dp hx []
 rwa [qtv] at this
theorem qh9 (h : Cst c r s L n) (hn : n ≤ 64) {o1 o2 : Option (Nat × Nat)} :
  Cw Tryz.prog 14 #[.pointer (some ⟨c.b, 0, none⟩), clV o1 o2 L] [foI c (r.map zbj) busy err s, zoi o1 L, zou o2 L] (fun _ : Pg => .bool true) (fun s' => Cst c r s' L n) (fun s' => [foI c (r.map zbj) busy err s', zoi o1 L, zou o2 L]) := fun w hw ha => by
 obtain ⟨g, x, k1, k2, k3, k4, k7, k5, k6⟩ := h.at_
 exact (zzk k1 k5 (qqd h hn k2 k3) k7 k4 (by have := h.len; omega) o1 o2 w hw ha).map fun y hy => ⟨y, rfl, k6 y hy, rfl⟩
theorem ql8 (h : Beg c s) : Cst c r8 s [] 0 :=
 ⟨h.rdy, h.N, by have := h.B; omega, ⟨none, rfl, ⟨fun _ h => (nomatch h), fun _ h => (nomatch h), .nil, fun _ => rfl, rfl⟩⟩, dQ⟩
theorem qcl : Cw Tryz.prog 9 #[] [ctI, tzI] (fun _ : Unit => .bool true) (fun _ => True) (fun _ => [ctI, tzI]) := by
 refine qnp [] Tryz.func9 rfl fun w0 => ?_
 simp only [zaa]
 refine goA ?_
 refine lC zlx fun ⟨xb, c, s⟩ hB => ?_
 have h0 := ql8 hB
 simp only at h0
 refine zcy (fun _ h => zps 45 32 (zps 2 1 h)) ?_
 refine goB ?_
 refine lC (zua (hc := 1) (by_ := 2) (fl := false) (o1 := none) (o2 := none) h0 dQ dQ) fun ⟨⟨p1, p2⟩, er1, r1, c1, s1⟩ ⟨h1, e1⟩ => ?_
 dsimp only at h1 e1 ⊢
 obtain ⟨L1, hL1⟩ : ∃ L, zvg [] (hsh 1) 2 false = L := ⟨_, rfl⟩
 rw [hL1] at h1 ⊢
 rw [← e1]
 refine goB ?_
 refine zam rfl rfl fun b25 hb25 => ?_
 refine goB ?_
 refine ziv [fsC xb _ _] 99 ?_
 refine goP ?_
 refine dV 4 ?_
 refine goP ?_
 refine dC 6 (zua (hc := 1) (by_ := -3) (fl := false) (o1 := p1) (o2 := p2) h1 dQ dQ) fun ⟨⟨p1, p2⟩, er2, r2, c2, s2⟩ ⟨h2, e2⟩ => ?_
 dsimp only at h2 e2 ⊢
 obtain ⟨L2, hL2⟩ : ∃ L, zvg L1 (hsh 1) (-3) false = L := ⟨_, rfl⟩
 rw [hL2] at h2 ⊢
 rw [← e2]
 refine goP ?_
 refine dSa 10 ?_
 refine goQ ?_
 refine ziv [fsC xb _ _] 99 ?_
 refine goP ?_
 refine dV 4 ?_
 refine goP ?_
 refine dC 6 (zua (hc := 1) (by_ := -1) (fl := false) (o1 := p1) (o2 := p2) h2 dQ dQ) fun ⟨⟨p1, p2⟩, er3, r3, c3, s3⟩ ⟨h3, e3⟩ => ?_
 dsimp only at h3 e3 ⊢
 obtain ⟨L3, hL3⟩ : ∃ L, zvg L2 (hsh 1) (-1) false = L := ⟨_, rfl⟩
 rw [hL3] at h3 ⊢
 rw [← e3]
 refine goP ?_
 refine dSa 10 ?_
 refine goQ ?_
 refine l_w rfl (zks rfl rfl rfl rfl rfl) ?_
 refine goA ?_
 refine lC (qmf h3 dQ (hb := hsh 1) rfl) fun s4 h4 => ?_
 rw [show zga L3 (hsh 1) = 1 by rw [← hL3, ← hL2, ← hL1]; decide +kernel]
 refine goB ?_
 refine ziv [fsC xb _ _, pt b25 _] 99 ?_
 refine goP ?_
 refine dC 21 (qh9 h4 dQ (o1 := p1) (o2 := p2)) fun s5 h5 => ?_
 refine goQ ?_
 refine qtx ?_
 exact xC () trivial
end Go.Proofs.YthafakdplhdfjaaGreatDoor
namespace Go.Eng
open Go.RowKit
variable {P : Program} {Q : Exit → Act → World → Prop} {N : Fm} {l : zav} {ops : Array Oper} {rest : List Oper} {w0 : World} {F : Nat → Prop} {m m' r : List Item} {ty : TypeId} {pos : String} {after : Array Edge} {g : Option (Nat × Bool)} {d : Nat}
theorem lC0 {f : FuncId} {xs : List Operand} {tys : Array TypeId} {us : Array Value} {vs : List Value} {α : Type} {val : α → Value} {φ : α → Prop} {its : α → List Item} (hc : ∀ w, Hp w0 F m w → Ct P f us w none' val φ its) (k : ∀ x, φ x → HL P ops Q N rest ((d, val x) :: l) (Hp w0 F (apI (its x) m)))
  (hx : evs l xs = some vs := by rfl) (hu : vs.toArray = us := by rfl) (hg : okG ops l g = true := by rfl) (hok : zee N l (.call ⟨.value (.func f), xs.toArray, tys⟩) d = true := by rfl) (hb : za7 P f = true := by kernel_rfl) : HL P ops Q N (⟨some d, .call ⟨.value (.func f), xs.toArray, tys⟩, ty, pos, after, g⟩ :: rest) l (Hp w0 F m) :=
 zeh hg (qhd hok hb hx fun w hw => by rw [hu]; exact hc w hw) fun x => by rw [zf9]; exact k x.1 x.2
instance (q : IntKind) (b : Nat) (A : zcs) : Stab (zck q b A) := ⟨zax _ _ _ _⟩
end Go.Eng
namespace Go.Proofs.YthafakdplhdfjaaGreatDoor
open Go.RowKit Go.Eng Go.Eng.Bm Go.Eng.Tr
theorem qh6 (hb : Bys) (hbl : hb.length = 32) (by_ : Int) : Cw Tryz.prog 4 #[zlb hb, .int .i64 by_] [ctI, tzI] (fun _ : Unit => .bool true) (fun _ => True) (fun _ => [ctI, tzI]) := by
 refine qnp [_, _] Tryz.func4 rfl fun w0 => ?_
 simp only [zaa]
 unfold zlb
 refine goA ?_
 refine zbp rfl rfl fun b2 hb2 => ?_
 refine goA ?_
 refine lC zlx fun ⟨xb, c, s⟩ hB => ?_
 dsimp only
 refine goB ?_
 refine l_w rfl (zcw (cs := (hb.map fun c => Value.int .u8 (c.toNat : Int)).toArray) rfl (by rw [aZ, aD, hbl]; rfl) mm) ?_
 refine goA ?_
 refine lC0 (fun w _ => zy9 hb hbl w) fun _ _ => ?_
 refine goA ?_
 refine l_w rfl (zcw (cs := (hb.map fun c => Value.int .u8 (c.toNat : Int)).toArray) rfl (by rw [aZ, aD, hbl]; rfl) mm) ?_
 refine goA ?_
 refine lC0 (fun w _ => qe8 hb hbl by_ w) fun _ _ => ?_
 refine goA ?_
 refine lC0 (fun w _ => zzj w) fun _ _ => ?_
 refine goA ?_
 refine lC0 (fun w _ => zoa _ w) fun _ _ => ?_
 refine goA ?_
 refine lC0 (fun w _ => qet _ w) fun _ _ => ?_
 refine goA ?_
 refine qs3 ?_
 refine lC qcl fun _ _ => ?_
 refine goB ?_
 exact xC () trivial
end Go.Proofs.YthafakdplhdfjaaGreatDoor
