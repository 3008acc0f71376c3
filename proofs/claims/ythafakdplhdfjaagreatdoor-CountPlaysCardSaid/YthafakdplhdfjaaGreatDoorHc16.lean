/- Parts: law 16; A region that draws; What the cards of layer 16 share. No condition. -/
import Derived.Test.YthafakdplhdfjaaGreatDoorHc15
import Derived.Test.YthafakdplhdfjaaGreatDoorHc02
import Derived.Test.YthafakdplhdfjaaGreatDoorHc14
set_option maxRecDepth 100000
set_option maxHeartbeats 40000000
namespace Go.Proofs.YthafakdplhdfjaaGreatDoor
open Go.RowKit Go.Eng Go.Eng.Bm Go.Eng.Tr
variable {n : Nat} {g : Sg} {r : List Rt} {x : Rt}
theorem qn2 (h : FoV n g r) (hN : n ≤ 1024) {k m : Nat} (hk : zq9 r ≤ m) (hK : m ≤ 5 * 2 ^ k) (hn : (4 * (m / 5) + 32) / 3 + k + 4 < n) (h16 : k < 16) {i : Nat} (hx : r[i]? = some x) (f : K) : qnd (fSh i) n g f (zbj x : Nat) (geE (zdb x) f) := by
 have hi : i < 8 := by rw [← h.len]; exact (aI.1 hx).1
 have q2 := (h.room hk hK hn h16 hx).2
 obtain ⟨hr, hrep, -⟩ := h.ok i x hx
 have hlow := h.low hx
 have hs := znw hi
 match x, hr, hrep, hlow, q2 with
 | none, _, _, _, _ => exact .inl ⟨rfl, rfl⟩
 | some ⟨hh, t⟩, hr, hrep, hlow, q2 =>
  have hr : TOk (fSh i) t := hr
  have hlow : ∀ x ∈ pgs t, 1 ≤ x ∧ x < n := hlow
  refine .inr ⟨pg t, rfl, ?_, ?_⟩
  ·have := (hlow (pg t) (zcj t)).1
   omega
  ·show qp4 (fSh i) n g f 16 (pg t) (geE (ents t) f)
   rw [← qfa t f hr.ord]
   exact ql5 hs.kw hN t hr.ord hr.wd hr.below hr.le hr.two (fun h' => by show 2 ≤ (fSh i).fan / 2; have := hs.h4; omega) hrep hlow 16 q2
theorem qtv (e : E) : geE e [] = e := by
 unfold geE
 exact cT.2 fun q _ => by
  have : ¬ kl q.1 [] := fun h => by obtain ⟨a, b⟩ := q; cases a <;> cases h
  simpa using this
theorem qkk (k : K) : (⟨k.toArray⟩ : ByteArray) = kB k := rfl
abbrev smI (b6 b3 b5 b7 : Nat) (o1 o2 : Option (Nat × Nat)) (L : Cl) (x : Nat × Bys) : List Eng.Item := [pt b6 (.cells #[.bool true] 4 (0, 0)), pt b3 (.cells #[slV o1 L.length, slV o2 L.length] 30 (0, 0)), pt b5 (.cells #[.int .i64 (x.1 : Nat)] 3 (0, 0)), pt b7 (.cells #[.string (kB x.2)] 9 (0, 0)), zoi o1 L, zou o2 L]
variable {L : Cl}
theorem zwv (b6 b3 b5 b7 : Nat) (o1 o2 : Option (Nat × Nat)) (hL : ∀ p ∈ L, p.1.length = 32) (hn : L.length ≤ 1000) (i : Nat) (hi : i ≤ 1000) (last hb : Bys) (hbl : hb.length = 32) (m : Nat) (h0 : 0 < m) (hm : m < 4294967296) (hc : zga L hb = m) (hk : i ≠ 0 → kl last hb) :
  Cw Tryz.prog 48 #[zlb hb, .int .u32 (m : Nat), .pointer (some ⟨b6, 0, none⟩), .pointer (some ⟨b3, 0, none⟩), .pointer (some ⟨b5, 0, none⟩), .pointer (some ⟨b7, 0, none⟩)] [zef (smI b6 b3 b5 b7 o1 o2 L (i, last))] (fun x : Bool × Nat × Bys => .bool x.1) (fun x => x = (true, i + 1, hb)) (fun x => [zef (smI b6 b3 b5 b7 o1 o2 L x.2)]) := by
 refine qnp [_, _, _, _, _, _] Tryz.func48 rfl fun w0 => ?_
 simp only [zaa]
 refine zg8 (m' := smI b6 b3 b5 b7 o1 o2 L (i, last)) (fun _ h => Hp.open1 h) ?_
 refine zhm (fun w hw => And.intro (zas (hw.item (zoi o1 L) mm).1).1 (zas (hw.item (zou o2 L) mm).1).1) fun ⟨f1, f2⟩ => ?_
 unfold zlb
 refine goA ?_
 refine zbp rfl rfl fun b9 hb9 => ?_
 refine goA ?_
 unfold smI
 dsimp only
 rw [f1, f2]
 refine ziv [pt b3 _, pt b5 _, pt b7 _, pt b9 _, zoi o1 L, zou o2 L] 99 ?_
 refine dV 0 ?_
 refine goP ?_
 refine dV 5 (hv := zcw rfl (by rw [bB, aD, hbl]; rfl) (.head _)) ?_
 refine dPF 6 (fun w1 hw1 => zko L hL oQ hb hbl (slA o1) (slA o2) (slC o1) (slC o2) w1 (za8 (hw1.item (zoi o1 L) mm).1) (za8 (hw1.item (zou o2 L) mm).1)) ?_
 rw [hc]
 refine goP ?_
 rw [beq_self_eq_true]
 refine goP ?_
 rw [decide_eq_true (show ((m : Nat) : Int) > 0 by omega)]
 refine goP ?_
 by_cases hi0 : i = 0
 ·subst hi0
  rw [show (((0 : Nat) : Int) == 0) = true from rfl]
  refine goP ?_
  refine dS1 23 ?_
  refine goQ ?_
  refine l_w rfl (zg9 rfl rfl rfl rfl) ?_
  refine goA ?_
  refine l_w rfl (zlp (bs := hb) rfl hbl.symm rfl rfl rfl (fun w' hw' => zmu (hw'.item (haC b9 hb) mm).1)) ?_
  refine goB ?_
  rw [← f1, ← f2, qkk]
  refine qi6 (smI b6 b3 b5 b7 o1 o2 L (0 + 1, hb)) ?_
  exact xC (true, 0 + 1, hb) rfl
 ·rw [show (((i : Nat) : Int) == 0) = false by simpa using hi0]
  refine goP ?_
  refine dVP rfl rfl (zg9 rfl rfl rfl rfl) ?_
  refine dVP rfl rfl (zlp (bs := hb) rfl hbl.symm rfl rfl rfl (fun w' hw' => zmu (hw'.item (haC b9 hb) mm).1)) ?_
  refine goP ?_
  rw [qkk, zjt, zjt, qmh, qgw, decide_eq_false (zhf (hk hi0)), decide_eq_false (Ne.symm (zi8 (hk hi0))), show (!(false || false)) = true from rfl]
  refine goP ?_
  refine dS1 23 ?_
  refine goQ ?_
  refine l_w rfl (zg9 rfl rfl rfl rfl) ?_
  refine goA ?_
  refine l_w rfl (zlp (bs := hb) rfl hbl.symm rfl rfl rfl (fun w' hw' => zmu (hw'.item (haC b9 hb) mm).1)) ?_
  refine goB ?_
  rw [← f1, ← f2, qkk]
  refine qi6 (smI b6 b3 b5 b7 o1 o2 L (i + 1, hb)) ?_
  exact xC (true, i + 1, hb) rfl
theorem qf7 : ∀ {e : E} {y : K × K}, Es e → y ∈ e → zi6 e y.1 = some y.2
 | p :: r, y, hs, hy => by
  unfold zi6
  rcases aJ.1 hy with rfl | hy
  ·simp
  ·have h1 := zi8 ((zpm hs).1 y hy)
   rw [gR (by simpa using h1)]
   exact qf7 (zpm hs).2 hy
theorem qqg {m k : Nat} (hm : m < 4294967296) (hk : k < 4294967296) (h : beN 4 m = beN 4 k) : m = k := by
 have h1 := zgc (w := 4) (n := m) oQ []
 have h2 := zgc (w := 4) (n := k) oQ []
 rw [h, h2] at h1
 exact (congrArg (·.1) h1).symm
theorem Rel.ent {e : E} (h : Rel e L) (hs : Es e) {y : K × K} (hy : y ∈ e) : y.1.length = 32 ∧ 0 < zga L y.1 ∧ zga L y.1 < 4294967296 ∧ y.2 = beN 4 (zga L y.1) := by
 have h1 := qf7 hs hy
 rw [h.get] at h1
 obtain ⟨h2, h3⟩ := zlv h.pos y.1
 have h4 : zga L y.1 ≠ 0 := fun e => by rw [e] at h1; cases h1
 unfold cnt? at h1
 rw [if_neg h4] at h1
 obtain ⟨p, hp, hpe⟩ := aO.1 (h3.1 h4)
 exact ⟨hpe ▸ h.l32 p hp, oQ, h2, (cN h1).symm⟩
def qg0 (k : E) : Bys := ((k.getLast?).map (·.1)).getD []
variable {c : Fc} {s : Pg} {busy : Bool} {err : Nat}
theorem zzk (h : Fok c g s) {R : List Nat} {a : Nat} (ha : R[0]? = some a) {xs : E} (hl : qnd (fSh 0) c.N g [] (a : Nat) xs) (hs : Es xs) (hrel : Rel xs L) (hn : L.length ≤ 1000) (o1 o2 : Option (Nat × Nat)) :
  Cw Tryz.prog 14 #[.pointer (some ⟨c.b, 0, none⟩), clV o1 o2 L] [foI c R busy err s, zoi o1 L, zou o2 L] (fun _ : Pg => .bool true) (fun s' => Fok c g s') (fun s' => [foI c R busy err s', zoi o1 L, zou o2 L]) := by
 have hx : ∀ y ∈ xs, y.1.length = 32 ∧ ∃ m, 0 < m ∧ m < 4294967296 ∧ y.2 = beN 4 m := fun y hy => by
  obtain ⟨e1, e2, e3, e4⟩ := hrel.ent hs hy
  exact ⟨e1, _, e2, e3, e4⟩
 refine qnp [_, _] Tryz.func14 rfl fun w0 => ?_
 simp only [zaa]
 refine goA ?_
 refine zbp rfl rfl fun b3 hb3 => ?_
 refine goA ?_
 refine zdg rfl rfl rfl fun b5 hb5 => ?_
 refine goB ?_
 refine zdg rfl rfl rfl fun b6 hb6 => ?_
 refine goB ?_
 refine zdg rfl rfl rfl fun b7 hb7 => ?_
 refine goB ?_
 refine l_w rfl (zhw rfl) ?_
 refine goB ?_
 rw [qkk []]
 refine qod (smI b6 b3 b5 b7 o1 o2 L (0, [])) ?_
 refine lC (zpf h ha hl hx (σ := Nat × Bys) (fun st => zef (smI b6 b3 b5 b7 o1 o2 L st)) (fun k st => st = (k.length, qg0 k)) (fun _ => False) (0, []) (fd := 48) (cs := [.pointer (some ⟨b6, 0, none⟩), .pointer (some ⟨b3, 0, none⟩), .pointer (some ⟨b5, 0, none⟩), .pointer (some ⟨b7, 0, none⟩)]) kQ (fun st => zad _) rfl (fun k y m st hp hy hm hi w2 hh2 => ?_)) fun ⟨s', st⟩ ⟨hs', hst⟩ => ?_
 ·subst hi
  have hlk := hp.length_le
  rw [aA] at hlk
  have hlk : k.length + 1 ≤ xs.length := hlk
  have hlen := hrel.len
  obtain ⟨e1, e2, e3, e4⟩ := hrel.ent hs (hp.subset (aT _ (.head _)))
  have hmk : zga L y.1 = m := qqg e3 hm (e4.symm.trans hy)
  refine Ct.map (zwv b6 b3 b5 b7 o1 o2 hrel.l32 hn k.length oQ (qg0 k) y.1 e1 m oQ hm hmk (fun h0 => ?_) w2 (fun it hm => by rw [aK.1 hm]; exact hh2) (.cons (fun _ h => nomatch h) .nil)) fun z hz => ⟨z, rfl, .inl ⟨by rw [hz], ?_⟩, rfl⟩
  ·obtain ⟨t, ht⟩ := hp
   rw [← ht] at hs
   unfold Es Ks at hs
   rw [bV, bV] at hs
   have h1 := (bQ.1 hs).1
   have h2 := (bQ.1 h1).2.2
   obtain ⟨z, hz⟩ : ∃ z, k.getLast? = some z := by
    cases hq : k.getLast? with
    | none => rw [List.getLast?_eq_none_iff] at hq; subst hq; exact absurd rfl h0
    | some z => exact ⟨z, rfl⟩
   unfold qg0
   rw [hz]
   exact h2 z.1 (aO.2 ⟨z, List.mem_of_getLast? hz, rfl⟩) y.1 (.head _)
  ·show z.2 = _
   rw [hz, aA]
   unfold qg0
   rw [List.getLast?_concat]
   rfl
 ·obtain rfl : st = (xs.length, qg0 xs) := hst.resolve_right fun h => h
  simp only at hs'
  refine goB ?_
  refine lC (fun w hw _ => zt5 hs' ha hl hx (by have := hrel.len; omega) w hw) fun s2 hs2 => ?_
  refine qq3 ?_
  unfold smI
  dsimp only
  rw [hrel.len]
  refine zch (fun w hw => (zas (hw.item (zoi o1 L) mm).1).1) fun f1 => ?_
  rw [f1]
  refine goB ?_
  rw [beq_self_eq_true]
  refine goB ?_
  exact xC s2 hs2
abbrev zvg (L : Cl) (h : Bys) (by_ : Int) (fl : Bool) : Cl := if okC (zga L h) by_ ∧ fl = false then zls L h ((zga L h : Int) + by_).toNat else L
structure Cst (c : Fc) (r : List Rt) (s : Pg) (L : Cl) (n : Nat) : Prop where
 rdy : Rdy c r r s
 N : c.N = 120
 B : c.B ≤ 604 + 601 * n
 rel : ∃ x, r[0]? = some x ∧ Rel (zdb x) L
 tot : zq9 r ≤ n
theorem qnv (h : n = 120) : Few n 64 4 := by subst h; exact ⟨dQ, dQ, dQ, dQ⟩
theorem Cst.len {c : Fc} {r : List Rt} {s : Pg} {L : Cl} {n : Nat} (h : Cst c r s L n) : L.length ≤ n := by
 obtain ⟨x, hx, hr⟩ := h.rel
 rw [← hr.len]
 exact cJ (qmt hx) h.tot
theorem zua (h : Cst c r s L n) (hn : n ≤ 63) {hc : UInt8} {by_ : Int} (hby : -9223372036854775808 ≤ by_ ∧ by_ < 9223372036854775808) {fl : Bool} {o1 o2 : Option (Nat × Nat)} :
  Cw Tryz.prog 11 #[.pointer (some ⟨c.b, 0, none⟩), clV o1 o2 L, .agg #[.int .u8 (hc.toNat : Int), .int .i64 by_, .bool fl]] [foI c (r.map zbj) false err s, ctI, zoi o1 L, zou o2 L]
   (fun y : (Option (Nat × Nat) × Option (Nat × Nat)) × Nat × List Rt × Fc × Pg => .tuple #[clV y.1.1 y.1.2 (zvg L (hsh hc) by_ fl), .bool true]) (fun y => Cst y.2.2.2.1 y.2.2.1 y.2.2.2.2 (zvg L (hsh hc) by_ fl) (n + 1) ∧ y.2.2.2.1.b = c.b)
   (fun y => [foI y.2.2.2.1 (y.2.2.1.map zbj) false y.2.1 y.2.2.2.2, ctI, zoi y.1.1 (zvg L (hsh hc) by_ fl), zou y.1.2 (zvg L (hsh hc) by_ fl)]) := fun w hw ha => by
 obtain ⟨x, hx, hr⟩ := h.rel
 refine (qar h.rdy (by have := h.B; omega) (qnv h.N) (by have := h.tot; omega) hx hr (by have := h.len; omega) hc by_ hby fl err o1 o2 w hw ha).map fun y hy => ⟨y, rfl, ⟨⟨hy.rdy, hy.keep.N.trans h.N, ?_, hy.rel, ?_⟩, hy.keep.b⟩, rfl⟩
 ·have := hy.keep.B
  have := h.B
  omega
 ·have := hy.tot
  have := h.tot
  omega
theorem Cst.at_ (h : Cst c r s L n) : ∃ g x, Fok c g s ∧ FoV c.N g r ∧ r[0]? = some x ∧ Rel (zdb x) L ∧ Es (zdb x) ∧ (r.map zbj)[0]? = some (zbj x) ∧ ∀ s', Fok c g s' → Cst c r s' L n := by
 obtain ⟨g, k1, k2, k3⟩ := h.rdy.now
 obtain ⟨x, hx, hr⟩ := h.rel
 exact ⟨g, x, k1, k2, hx, hr, (k2.ok 0 x hx).2.2, by rw [aP, hx]; rfl, fun s' hs' => ⟨⟨h.rdy.st, g, hs', k2, k3⟩, h.N, h.B, h.rel, h.tot⟩⟩
theorem qmf (h : Cst c r s L n) (hn : n ≤ 64) {hb : Bys} (hbl : hb.length = 32) :
  Cw Tryz.prog 12 #[.pointer (some ⟨c.b, 0, none⟩), zlb hb] [foI c (r.map zbj) busy err s] (fun _ : Pg => .tuple #[.int .u32 (zga L hb : Nat), .int .i64 0]) (fun s' => Cst c r s' L n) (fun s' => [foI c (r.map zbj) busy err s']) := fun w hw _ => by
 obtain ⟨g, x, k1, k2, k3, k4, -, k5, k6⟩ := h.at_
 have hf := qnv h.N
 refine (zsd k1 k5 hb hbl (zlv k4.pos hb).1 ?_ w hw).map fun y hy => ⟨y, rfl, k6 y hy, rfl⟩
 rw [← k4.get]
 exact k2.get hf.le (by have := h.tot; omega) hf.lo hf.rm hf.dp k3 hb
theorem qqd (h : Cst c r s L n) (hn : n ≤ 64) (hv : FoV c.N g r) (hx : r[0]? = some x) : qnd (fSh 0) c.N g [] (zbj x : Nat) (zdb x) := by
 have hf := qnv h.N
 have := qn2 hv hf.le (by have := h.tot; omega) hf.lo hf.rm hf.dp hx []
 rwa [qtv] at this
theorem qh9 (h : Cst c r s L n) (hn : n ≤ 64) {o1 o2 : Option (Nat × Nat)} :
  Cw Tryz.prog 14 #[.pointer (some ⟨c.b, 0, none⟩), clV o1 o2 L] [foI c (r.map zbj) busy err s, zoi o1 L, zou o2 L] (fun _ : Pg => .bool true) (fun s' => Cst c r s' L n) (fun s' => [foI c (r.map zbj) busy err s', zoi o1 L, zou o2 L]) := fun w hw ha => by
 obtain ⟨g, x, k1, k2, k3, k4, k7, k5, k6⟩ := h.at_
 exact (zzk k1 k5 (qqd h hn k2 k3) k7 k4 (by have := h.len; omega) o1 o2 w hw ha).map fun y hy => ⟨y, rfl, k6 y hy, rfl⟩
theorem ql8 (h : Beg c s) : Cst c r8 s [] 0 :=
 ⟨h.rdy, h.N, by have := h.B; omega, ⟨none, rfl, ⟨fun _ h => (nomatch h), fun _ h => (nomatch h), .nil, fun _ => rfl, rfl⟩⟩, dQ⟩
theorem qcl : Cw Tryz.prog 9 #[] [ctI, tzI] (fun _ : Unit => .bool true) (fun _ => True) (fun _ => [ctI, tzI]) := by
 refine qnp [] Tryz.func9 rfl fun w0 => ?_
 simp only [zaa]
 refine goA ?_
 refine lC zlx fun ⟨xb, c, s⟩ hB => ?_
 have h0 := ql8 hB
 simp only at h0
 refine zcy (fun _ h => zps 45 32 (zps 2 1 h)) ?_
 refine goB ?_
 refine lC (zua (hc := 1) (by_ := 2) (fl := false) (o1 := none) (o2 := none) h0 dQ dQ) fun ⟨⟨p1, p2⟩, er1, r1, c1, s1⟩ ⟨h1, e1⟩ => ?_
 dsimp only at h1 e1 ⊢
 obtain ⟨L1, hL1⟩ : ∃ L, zvg [] (hsh 1) 2 false = L := ⟨_, rfl⟩
 rw [hL1] at h1 ⊢
 rw [← e1]
 refine goB ?_
 refine zam rfl rfl fun b25 hb25 => ?_
 refine goB ?_
 refine ziv [fsC xb _ _] 99 ?_
 refine goP ?_
 refine dV 4 ?_
 refine goP ?_
 refine dC 6 (zua (hc := 1) (by_ := -3) (fl := false) (o1 := p1) (o2 := p2) h1 dQ dQ) fun ⟨⟨p1, p2⟩, er2, r2, c2, s2⟩ ⟨h2, e2⟩ => ?_
 dsimp only at h2 e2 ⊢
 obtain ⟨L2, hL2⟩ : ∃ L, zvg L1 (hsh 1) (-3) false = L := ⟨_, rfl⟩
 rw [hL2] at h2 ⊢
 rw [← e2]
 refine goP ?_
 refine dSa 10 ?_
 refine goQ ?_
 refine ziv [fsC xb _ _] 99 ?_
 refine goP ?_
 refine dV 4 ?_
 refine goP ?_
 refine dC 6 (zua (hc := 1) (by_ := -1) (fl := false) (o1 := p1) (o2 := p2) h2 dQ dQ) fun ⟨⟨p1, p2⟩, er3, r3, c3, s3⟩ ⟨h3, e3⟩ => ?_
 dsimp only at h3 e3 ⊢
 obtain ⟨L3, hL3⟩ : ∃ L, zvg L2 (hsh 1) (-1) false = L := ⟨_, rfl⟩
 rw [hL3] at h3 ⊢
 rw [← e3]
 refine goP ?_
 refine dSa 10 ?_
 refine goQ ?_
 refine l_w rfl (zks rfl rfl rfl rfl rfl) ?_
 refine goA ?_
 refine lC (qmf h3 dQ (hb := hsh 1) rfl) fun s4 h4 => ?_
 rw [show zga L3 (hsh 1) = 1 by rw [← hL3, ← hL2, ← hL1]; decide +kernel]
 refine goB ?_
 refine ziv [fsC xb _ _, pt b25 _] 99 ?_
 refine goP ?_
 refine dC 21 (qh9 h4 dQ (o1 := p1) (o2 := p2)) fun s5 h5 => ?_
 refine goQ ?_
 refine qtx ?_
 exact xC () trivial
end Go.Proofs.YthafakdplhdfjaaGreatDoor
namespace Go.Eng
open Go.RowKit
variable {P : Program} {Q : Exit → Act → World → Prop} {N : Fm} {l : zav} {ops : Array Oper} {rest : List Oper} {w0 : World} {F : Nat → Prop} {m m' r : List Item} {ty : TypeId} {pos : String} {after : Array Edge} {g : Option (Nat × Bool)} {d : Nat}
variable {listed : Array Bool} {z : Value} {cs : Array Value}
theorem dAl (j : Nat) {n t : Nat} {s : List Item} {T : TypeId} (k : ∀ b, w0.heap.size ≤ b → HD P ops Q (Hp w0 F s) t N n (listed.setIfInBounds j true) ((d, .pointer (some ⟨b, 0, none⟩)) :: l) (Hp w0 F (pt b (.cells cs T (0, 0)) :: m)))
  (hj0 : nth ops.toList j = some ⟨some d, .alloc T, ty, pos, after, g⟩ := by rfl) (hz : (P.info? T).bind (·.zero) = some z := by rfl) (hcs : z.cells = cs := by rfl) (hs : Fnds s m m' := by exact qt4) (hr0 : Region.ready .any ops listed = [j] := by kernel_rfl) (hr1 : j < t := by decide) (hg : okG ops l g = true := by rfl) (hok : zee N l (.alloc T) d = true := by rfl) :
  HD P ops Q (Hp w0 F s) t N (n + 1) listed l (Hp w0 F m) := by
 subst hcs
 exact zat j ⟨hr0, hr1⟩ hj0 hg (zlg hok hz) (fun _ _ h => hs.hp (h.sub (.cons _ (.refl _)))) fun b => k b.1 b.2
theorem qtr (i j : Nat) {n t d2 : Nat} {f : FuncId} {xs : List Operand} {tys : Array TypeId} {us : Array Value} {vs : List Value} {pre s r' : List Item} {α : Type} {val : α → Value} {φ : α → Prop} {its : α → List Item} {T ty2 : TypeId} {pos2 : String} {after2 : Array Edge}
  (hc : Cw P f us pre val φ its) (k1 : ∀ x, φ x → HD P ops Q (Hp w0 F s) t N n (listed.setIfInBounds i true) ((d, val x) :: l) (Hp w0 F (apI (its x) r)))
  (k2 : ∀ b, w0.heap.size ≤ b → HD P ops Q (Hp w0 F s) t N n (listed.setIfInBounds j true) ((d2, .pointer (some ⟨b, 0, none⟩)) :: l) (Hp w0 F (pt b (.cells cs T (0, 0)) :: m)))
  (hi0 : nth ops.toList i = some ⟨some d, .call ⟨.value (.func f), xs.toArray, tys⟩, ty, pos, after, none⟩ := by rfl) (hj0 : nth ops.toList j = some ⟨some d2, .alloc T, ty2, pos2, after2, none⟩ := by rfl) (hz : (P.info? T).bind (·.zero) = some z := by rfl) (hcs : z.cells = cs := by rfl)
  (hx : evs l xs = some vs := by rfl) (hu : vs.toArray = us := by rfl) (hf : Fnds pre m r := by exact qt4) (hs : Fnds s r r' := by exact qt4) (hr0 : Region.ready .any ops listed = [i, j] := by kernel_rfl) (hij : i < t ∧ j < t := by decide) [hst : StabL pre]
  (hok : zee N l (.call ⟨.value (.func f), xs.toArray, tys⟩) d = true := by rfl) (hok3 : zee N l (.alloc T) d2 = true := by rfl) (hb : za7 P f = true := by kernel_rfl) : HD P ops Q (Hp w0 F s) t N (n + 1) listed l (Hp w0 F m) := by
 subst hcs
 have hp := hf.perm
 rw [← zf9] at hp
 have hS : ∀ {M : List Item} w, Hp w0 F (M ++ r) w → Hp w0 F s w := fun w h => hs.hp (h.sub (dJ _ _))
 refine zi0 hp (zt7 i j ⟨hr0, hij⟩ hi0 hj0 rfl rfl (zfb hok hb hx hst.st fun w _ hh ha => by rw [hu]; exact hc w hh ha) (zlg hok3 hz) (fun _ _ h => hS _ h) (fun b w h => hS (M := pt b.1 (.cells z.cells T (0, 0)) :: pre) w h) (fun x => ?_) (fun b => ?_))
 ·rw [zf9]; exact k1 x.1 x.2
 ·exact zi0 (.cons _ hp.symm) (k2 b.1 b.2)
instance (q : IntKind) (b : Nat) (A : zcs) : Stab (zck q b A) := ⟨zax _ _ _ _⟩
end Go.Eng
namespace Go.Proofs.YthafakdplhdfjaaGreatDoor
open Go.RowKit Go.Eng Go.Eng.Bm Go.Eng.Tr
structure A16 where
 h : UInt8
 n : Int
 fl : Bool
def A16.vs (x : A16) : List Value := [.int .u8 (x.h.toNat : Int), .int .i64 x.n, .bool x.fl]
theorem A16.sz (x : A16) : x.vs.length = 3 := rfl
def A16.Ok (x : A16) : Prop := -9223372036854775808 ≤ x.n ∧ x.n < 9223372036854775808
theorem qe8 {w : World} {L : List A16} {a : Option Addr} (h : Rd w a (zc6 A16.vs L)) {i : Nat} (hi : i < L.length) : ∃ b off, a = some ⟨b, off, none⟩ ∧ w.rangeAt b (off + i * 3) (L[i]'hi).vs := by
 obtain ⟨b, off, rfl, hrow⟩ := h.at_ (by intro h; have := congrArg List.length h; rw [zoa A16.sz] at this; simp at this; omega)
 exact ⟨b, off, rfl, Rd.row A16.sz hrow hi⟩
structure Ps where
 i : Nat
 o1 : Option (Nat × Nat)
 o2 : Option (Nat × Nat)
 er : Nat
 r : List Rt
 c : Fc
 s : Pg
 L : Cl
theorem zzj (L : List A16) (hok : ∀ x ∈ L, x.Ok) (a : Option Addr) (cp : Nat) (h : UInt8) (w : World) (hr : Rd w a (zc6 A16.vs L)) (hap : ∀ b off, a = some ⟨b, off, none⟩ → L ≠ [] → ¬ za4 [ctI, tzI] b) (hw : ∀ it ∈ [ctI, tzI], zbq it w) (ha : [ctI, tzI].Pairwise Eng.Item.Apart) :
  Ct Tryz.prog 3 #[.slice a L.length cp, .int .u8 (h.toNat : Int)] w (za4 [ctI, tzI]) (fun _ : Unit => .bool true) (fun _ => True) (fun _ => [ctI, tzI]) := by
 refine za2 [_, _] _ Tryz.func3 rfl rfl hw ha ?_
 simp only [zaa, Nat.reduceAdd]
 refine goA ?_
 by_cases h60 : 60 < L.length
 ·refine goA ?_
  refine lC qcl fun _ _ => ?_
  refine goB ?_
  exact xC () trivial
 ·refine goA ?_
  refine lC zlx fun ⟨xb, c, s⟩ hB => ?_
  have h0 := ql8 hB
  dsimp only at h0 ⊢
  refine zcy (fun _ h => zps 45 32 (zps 2 1 h)) ?_
  refine goB ?_
  refine zam rfl rfl fun b7 hb7 => ?_
  refine goB ?_
  refine qtw (fun y : Ps => [(0, .slice a L.length cp), (1, .int .u8 (h.toNat : Int)), (5, .pointer (some ⟨xb, 0, none⟩)), (7, .pointer (some ⟨b7, 0, none⟩)), (8, .int .i64 (y.i : Nat))]) (fun y => y.i ≤ L.length ∧ Cst y.c y.r y.s y.L y.i ∧ y.c.b = c.b)
   (fun y => [foI y.c (y.r.map zbj) false y.er y.s, ctI, zoi y.o1 y.L, zou y.o2 y.L, pt b7 (.cells #[slV y.o1 y.L.length, slV y.o2 y.L.length] 30 (0, 0)), fsC xb c.d.b c.b]) (fun y => L.length - y.i) ⟨0, none, none, 0, r8, c, s, []⟩ ⟨bA _, h0, rfl⟩ fun ⟨i, o1, o2, er, r1, c1, s1, L1⟩ ⟨hi, h1, e1⟩ => ?_
  dsimp only at hi h1 e1 ⊢
  rw [← e1]
  by_cases hil : i < L.length
  ·obtain ⟨b, off, rfl, hri⟩ := qe8 hr hil
   have hF := hap b off rfl (fun h => by subst h; exact absurd hil (fN _))
   have ho := hok _ (aS hil)
   generalize L[i] = t at hri ho
   refine goA ?_
   refine ziv [fsC xb _ _, pt b7 _] 99 ?_
   refine goP ?_
   refine dVP rfl rfl (zgp (xs := t.vs) (c := #[.int .u8 (t.h.toNat : Int), .int .i64 t.n, .bool t.fl]) rfl rfl (fun w' hw' => za5 hri hF hw') rfl) ?_
   have hd := zua (hc := t.h) (by_ := t.n) (fl := t.fl) (err := er) (o1 := o1) (o2 := o2) h1 oQ ho
   refine qtr 9 13 hd (fun ⟨⟨p1, p2⟩, er2, r2, c2, s2⟩ ⟨h2, e2⟩ => ?_) (fun b9 hb9 => ?_)
   ·dsimp only at h2 e2 ⊢
    rw [← e2]
    refine goP ?_
    refine dAl 13 fun b9 hb9 => ?_
    refine dSa 14 ?_
    refine goQ ?_
    exact xR ⟨i + 1, p1, p2, er2, r2, c2, s2, zvg L1 (hsh t.h) t.n t.fl⟩ ⟨hil, h2, rfl⟩ (by dsimp only; omega)
   ·refine dC 9 hd fun ⟨⟨p1, p2⟩, er2, r2, c2, s2⟩ ⟨h2, e2⟩ => ?_
    dsimp only at h2 e2 ⊢
    rw [← e2]
    refine goP ?_
    refine dSa 14 ?_
    refine goQ ?_
    exact xR ⟨i + 1, p1, p2, er2, r2, c2, s2, zvg L1 (hsh t.h) t.n t.fl⟩ ⟨hil, h2, rfl⟩ (by dsimp only; omega)
  ·obtain rfl : i = L.length := oQ
   refine goB ?_
   refine l_w rfl (zks rfl rfl rfl rfl rfl) ?_
   refine zd2 48 _ (zlb (hsh h)) rfl rfl ?_
   unfold zlb
   refine goB ?_
   refine zam rfl rfl fun b11 hb11 => ?_
   refine goB ?_
   refine ziv [fsC xb _ _, haC b11 (hsh h)] 99 ?_
   refine goP ?_
   refine dC 5 (qmf h1 oQ (hb := hsh h) rfl) fun s2 h2 => ?_
   refine goQ ?_
   obtain ⟨xr, -, hrel⟩ := h1.rel
   have hm := (zlv hrel.pos (hsh h)).1
   refine zhm (fun w hw => And.intro (zas (hw.item (zoi o1 L1) mm).1).1 (zas (hw.item (zou o2 L1) mm).1).1) fun ⟨f1, f2⟩ => ?_
   rw [f1, f2]
   refine ziv [fsC xb _ _, haC b11 (hsh h), pt b7 _] 99 ?_
   refine goP ?_
   refine dPF 4 (fun w1 hw1 => zko L1 hrel.l32 (by have := h1.len; omega) (hsh h) rfl (slA o1) (slA o2) (slC o1) (slC o2) w1 (za8 (hw1.item (zoi o1 L1) mm).1) (za8 (hw1.item (zou o2 L1) mm).1)) ?_
   rw [← f1, ← f2]
   refine goP ?_
   rw [beq_self_eq_true]
   refine goP ?_
   refine dC 16 (qh9 h2 oQ (o1 := o1) (o2 := o2)) fun s3 h3 => ?_
   refine qts ?_
   refine goP ?_
   refine dC 19 qcl fun _ _ => ?_
   refine goQ ?_
   exact xC () trivial
end Go.Proofs.YthafakdplhdfjaaGreatDoor
namespace Go.Proofs.YthafakdplhdfjaaGreatDoor
open Go.ChangeShapes Go.ChangeMaps Go.WideShapes Go.ChangeAt Go.RowKit Go.Eng Go.Proofs.YthafakdplhdfjaaGreatDoor
variable {W : World} {H : Type} {enc : TypeId × Value → H}
theorem qqa {sp : Nat → Bool} {held : Bool} {cs : List Value} {y : DataW H × List MemPlace} {n : Nat} (h : DataW.trod enc Tryz.prog W 0 sp held n 43 cs = some y) : ∃ e : A16, cs = e.vs ∧ e.Ok := by
 obtain ⟨y0, y1, y2, m, hl, t0, t1, t2⟩ := qet Tryz.underlying43 h
 have hl3 : cs.length = 3 := hl.trans kQ
 match cs, hl3 with
 | [a, b, c], _ =>
  obtain ⟨d, hd, -, wd⟩ := DataW.trod_int Tryz.underlying5 t0
  obtain ⟨k, hk, -, wk⟩ := DataW.trod_int Tryz.underlying2 t1
  obtain ⟨v, hv, -⟩ := DataW.trod_bool Tryz.underlying4 t2
  have hd' : (([a, b, c] : List Value).drop 0).take (Tryz.prog.cellsOf 5) = [.int .u8 d] := hd
  have hk' : (([a, b, c] : List Value).drop 1).take (Tryz.prog.cellsOf 2) = [.int .i64 k] := hk
  have hv' : (([a, b, c] : List Value).drop 2).take (Tryz.prog.cellsOf 4) = [.bool v] := hv
  rw [show Tryz.prog.cellsOf 5 = 1 by kernel_rfl] at hd'
  rw [show Tryz.prog.cellsOf 2 = 1 by kernel_rfl] at hk'
  rw [show Tryz.prog.cellsOf 4 = 1 by kernel_rfl] at hv'
  simp at hd' hk' hv'
  have vd : 0 ≤ d ∧ d ≤ 255 := by simpa [Lit.wf, IntKind.min, IntKind.max, IntKind.bits, IntKind.signed] using wd
  have vk : -9223372036854775808 ≤ k ∧ k ≤ 9223372036854775807 := by simpa [Lit.wf, IntKind.min, IntKind.max, IntKind.bits, IntKind.signed] using wk
  refine ⟨⟨UInt8.ofNat d.toNat, k, v⟩, ?_, ⟨vk.1, by show k < _; omega⟩⟩
  show _ = [Value.int .u8 ((UInt8.ofNat d.toNat).toNat : Int), .int .i64 k, .bool v]
  rw [hd', hk', hv', UInt8.toNat_ofNat', bC oQ, Int.toNat_of_nonneg vd.1]
theorem qqb {a0 : Option Addr} {len0 cap0 : Nat} {d : DataW H} {ps : List MemPlace} (h : DataW.Trod enc Tryz.prog W 0 (fun _ => true) true 22 (.slice a0 len0 cap0) d ps) : ∃ L : List A16, L.length = len0 ∧ len0 ≤ 9223372036854775807 ∧ Rd W a0 (zc6 A16.vs L) ∧ ∀ e ∈ L, e.Ok := by
 obtain ⟨fuel, hf⟩ := h
 exact qoy (⟨0, 0, false⟩ : A16) dQ A16.sz Tryz.underlying22 kQ (fun _ _ _ => qqa) hf
theorem zy9 (hT : zo8 W ∧ qbc W) {L : List A16} {a : Option Addr} (hr : Rd W a (zc6 A16.vs L)) : ∀ b off, a = some ⟨b, off, none⟩ → L ≠ [] → ¬ za4 [ctI, tzI] b := by
 intro b off he hL
 obtain ⟨b', off', he', hrow⟩ := qe8 hr (jQ.2 hL)
 rw [he] at he'
 cases he'
 exact qh6 hT (hrow 0 _ rfl) (hrow 1 _ rfl) (fun n h => by cases h) (fun n h => by cases h)
end Go.Proofs.YthafakdplhdfjaaGreatDoor
