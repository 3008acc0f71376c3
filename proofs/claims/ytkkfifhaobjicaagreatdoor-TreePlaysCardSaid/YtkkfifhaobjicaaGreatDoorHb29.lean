/- package pages: says, Abort, Put, Page. -/
/- package pages: Page. -/
/- package pages: sets, used, Alloc, Free, Used. -/
import Derived.Test.YtkkfifhaobjicaaGreatDoorHb28
namespace Go.Eng
open Go.RowKit
section
variable {P : Program} {Q : Exit → Act → World → Prop} {N : Fm} {l : zat} {H : World → Prop} {w0 : World} {F : Nat → Prop} {m : List Item} {ty : TypeId} {pos : String} {after : Array Edge} {g : Option (Nat × Bool)} {op : Op} {x : Operand} {b : Nat} {q : IntKind} {T : TypeId} {A : zck}
theorem qo2 {α : Type} {val : α → Value} {H' : α → World → Prop} (hok : (zg7 op && zem l op) = true) (hr : ∀ w, H w → ∃ x w', (execOp (ev l) ⟨none, op, ty, pos, after, g⟩).run P w = .ok (.value (val x)) w' ∧ H' x w') :
  HO P ⟨none, op, ty, pos, after, g⟩ Q N l H (fun _ => l) H' := by
 simp only [Bool.and_eq_true] at hok
 unfold HO
 intro a w s hw K hK
 refine ⟨zpb hok.1, ?_⟩
 obtain ⟨x, w', hr, hw'⟩ := hr w hw
 unfold Oper.wp
 rw [s.exec _ (zls hok.1) hok.2, hr]
 exact hK x _ _ s hw'
end
end Go.Eng
namespace Go.Proofs.YtkkfifhaobjicaaGreatDoor
open Go.RowKit Go.Eng Go.Eng.Bm
set_option maxRecDepth 100000
set_option maxHeartbeats 40000000
section ins
variable {β : Type}
def zep (B : List (Nat × β)) (h : Nat) (s : β) : List (Nat × β) := if (B.lookup h).isSome then B.map (fun p => if p.1 = h then (h, s) else p) else B ++ [(h, s)]
def toG (enc : β → Value) (B : List (Nat × β)) : zck := B.map fun p => (p.1, enc p.2)
theorem zr5 (enc : β → Value) (B : List (Nat × β)) (n : Nat) : (toG enc B).lookup n = (B.lookup n).map enc := by
 unfold toG
 induction B with
 | nil => rfl
 | cons p B ih =>
  rw [List.map_cons, List.lookup_cons, List.lookup_cons]
  cases h : n == p.1 with
  | true => rfl
  | false => exact ih
theorem ql5 (enc : β → Value) (B : List (Nat × β)) (h : Nat) (s : β) : toG enc (zep B h s) = zss (toG enc B) h (enc s) := by
 unfold zep zss
 rw [zr5, Option.isSome_map]
 split
 ·unfold toG
  rw [List.map_map, List.map_map]
  refine List.map_congr_left fun p _ => ?_
  show (_, _) = _
  by_cases hp : p.1 = h
  ·simp [hp]
  ·simp [hp]
 ·unfold toG
  rw [List.map_append]; rfl
theorem zc5 (B : List (Nat × β)) (h : Nat) (s : β) (k : Nat) : (zep B h s).lookup k = if k = h then some s else B.lookup k := by
 unfold zep
 split
 ·rename_i hs
  have : ∀ L : List (Nat × β), (L.map fun p => if p.1 = h then (h, s) else p).lookup k = if k = h then (L.lookup k).map (fun _ => s) else L.lookup k := by
   intro L
   induction L with
   | nil => simp
   | cons p L ih =>
    obtain ⟨q, x⟩ := p
    rw [List.map_cons]
    by_cases hq : q = h
    ·subst hq
     rw [if_pos rfl, List.lookup_cons, List.lookup_cons]
     by_cases hk : k = q
     ·subst hk; simp
     ·have : (k == q) = false := by simpa using hk
      rw [this]
      simp only [if_neg hk] at ih ⊢
      exact ih
    ·rw [if_neg hq, List.lookup_cons, List.lookup_cons, ih]
     by_cases hk : k = q
     ·subst hk
      simp [hq]
     ·have : (k == q) = false := by simpa using hk
      rw [this]
  rw [this]
  by_cases hk : k = h
  ·subst hk
   rw [if_pos rfl, if_pos rfl]
   cases hb : B.lookup k with
   | none => rw [hb] at hs; cases hs
   | some x => rfl
  ·rw [if_neg hk, if_neg hk]
 ·rename_i hs
  have hs' : B.lookup h = none := by
   cases hb : B.lookup h with
   | none => rfl
   | some x => rw [hb] at hs; exact absurd rfl hs
  by_cases hk : k = h
  ·subst hk
   rw [if_pos rfl, List.lookup_append, hs']
   simp
  ·rw [if_neg hk, List.lookup_append]
   have : ([(h, s)] : List (Nat × β)).lookup k = none := by
    rw [List.lookup_cons, show (k == h) = false by simpa using hk]; rfl
   rw [this]
   cases B.lookup k <;> rfl
theorem qjc {B : List (Nat × β)} {h : Nat} {s : β} {p : Nat × β} (hp : p ∈ zep B h s) : p = (h, s) ∨ p ∈ B := by
 unfold zep at hp
 split at hp
 ·obtain ⟨q, hq, rfl⟩ := List.mem_map.1 hp
  split
  ·exact .inl rfl
  ·exact .inr hq
 ·rcases List.mem_append.1 hp with hp | hp
  ·exact .inr hp
  ·exact .inl (List.mem_singleton.1 hp)
theorem zcm {B : List (Nat × β)} {n : Nat} {s : β} (h : B.lookup n = some s) : (n, s) ∈ B := by
 induction B with
 | nil => cases h
 | cons p B ih =>
  obtain ⟨q, x⟩ := p
  rw [List.lookup_cons] at h
  by_cases hk : n = q
  ·subst hk
   simp at h
   subst h
   exact .head _
  ·have : (n == q) = false := by simpa using hk
   rw [this] at h
   exact .tail _ (ih h)
end ins
theorem zn6 (A : PR) (h : Nat) (s : Bys) : toP (zep A h s) = zss (toP A) h (pgV s) := ql5 pgV A h s
theorem zq6 (A : PR) (h : Nat) : (toP A).lookup h = (A.lookup h).map pgV := zr5 pgV A h
def PR.Ok (A : PR) (n : Nat) : Prop := ∀ p ∈ A, p.1 < n ∧ p.2.length = 512
theorem PR.Ok.ins {A : PR} {n h : Nat} {s : Bys} (hA : A.Ok n) (hh : h < n) (hs : s.length = 512) : PR.Ok (zep A h s) n := fun p hp => by
 rcases qjc hp with rfl | hp
 ·exact ⟨hh, hs⟩
 ·exact hA p hp
theorem okI {n : Nat} (h : n ≤ 1000000) : okN .i64 n := by
 unfold okN
 simp [Lit.wf, IntKind.min, IntKind.max, IntKind.signed, IntKind.bits]
 omega
theorem zda (s : Pg) (d : Dk) : ∀ it ∈ [pgI s d], it.Stable none' := by
 intro it hm
 rcases hm with _ | ⟨_, hm⟩
 ·exact zco s d
 ·exact nomatch hm
theorem qb6 (s : Pg) (d : Dk) (e : Nat) (w : World) (hw : ∀ it ∈ [pgI s d], za2 it w) : Ct Tryz.prog 100 #[.pointer (some ⟨s.b, 0, none⟩), .int .i64 (e : Int)] w (zap [pgI s d]) (fun _ : Unit => .int .i64 (e : Int)) (fun _ => True) (fun _ => [pgI { s with dead := s.dead || decide (e = 4) } d]) := by
 refine zbd [_, _] _ Tryz.func100 rfl rfl hw (.cons (fun _ h => nomatch h) .nil) ?_
 simp only [zaa, Nat.reduceAdd]
 refine zku (m' := pgL s d) (fun w h => zim (m := []) h) ?_
 unfold pgL
 obtain ⟨b, bl, kb, db, cb, g, n, note, K, R, C, dead⟩ := s
 simp only
 have hend : ∀ x : Bool, ∀ w', Hp w (zap [pgI ⟨b, bl, kb, db, cb, g, n, note, K, R, C, dead⟩ d]) (pgL ⟨b, bl, kb, db, cb, g, n, note, K, R, C, x⟩ d) w' → Hp w (zap [pgI ⟨b, bl, kb, db, cb, g, n, note, K, R, C, dead⟩ d]) [pgI ⟨b, bl, kb, db, cb, g, n, note, K, R, C, x⟩ d] w' := fun x w' hw' => zf5 (m := []) (by rw [List.append_nil]; exact hw')
 cases dead with
 | true =>
  refine goA ?_
  refine za0 rfl (zaj rfl rfl rfl rfl rfl rfl (show (7 : Nat) < 8 from by decide)) fun _ => ?_
  refine goA ?_
  exact zb3 (hend true) (zbw () rfl rfl rfl trivial (.refl _) (zda _ _))
 | false =>
  by_cases he : e = 4
  ·subst he
   refine goA ?_
   refine za0 rfl (zaj rfl rfl rfl rfl rfl rfl (show (7 : Nat) < 8 from by decide)) fun _ => ?_
   refine goA ?_
   exact zb3 (hend true) (zbw () rfl rfl rfl trivial (.refl _) (zda _ _))
  ·have he2 : decide (e = 4) = false := by simp [he]
   have he3 : ((e : Int) == 4) = false := by simp; omega
   rw [he2]
   refine goA ?_
   rw [he3]
   refine za0 rfl (zaj rfl rfl rfl rfl rfl rfl (show (7 : Nat) < 8 from by decide)) fun _ => ?_
   refine goA ?_
   exact zb3 (hend false) (zbw () rfl rfl rfl trivial (.refl _) (zda _ _))
theorem zws (s : Pg) (d : Dk) (i : Int) (bs : Bys) (hbs : bs.length = 512) (a : Option Addr) (c : Nat) (hdead : s.dead = false) (hn : s.n ≤ 1024) (w : World) (hw : ∀ it ∈ [pgI s d], za2 it w) (hr : Rd w a (zaf bs)) (hap : ∀ b off, a = some ⟨b, off, none⟩ → ¬ zap [pgI s d] b) :
  Ct Tryz.prog 12 #[.pointer (some ⟨s.b, 0, none⟩), .int .i64 i, .slice a 512 c] w (zap [pgI s d]) (fun _ : Unit => .int .i64 (if i < 1 ∨ (s.n : Int) ≤ i then 2 else 0 : Nat)) (fun _ => True) (fun _ => [pgI (if i < 1 ∨ (s.n : Int) ≤ i then s else { s with C := zep s.C i.toNat bs }) d]) := by
 refine zbd [_, _, _] _ Tryz.func12 rfl rfl hw (.cons (fun _ h => nomatch h) .nil) ?_
 simp only [zaa, Nat.reduceAdd]
 refine goA ?_
 refine zae rfl (zag rfl (by kernel_rfl) rfl (fun w1 hw1 => zon s d i w1 (za2.of (hw1.item _ (.head _)) (zco s d)))) fun _ => ?_
 have hbl : (zaf bs).length = 512 := by rw [zar, hbs]
 by_cases h1 : i < 1 ∨ (s.n : Int) ≤ i
 ·rw [if_pos h1, if_pos h1]
  by_cases h2 : i < 0 ∨ (s.n : Int) ≤ i
  ·rw [show qcs s i = 2 by rw [qcs, if_pos h2]]
   refine goA ?_
   exact zbw () rfl rfl rfl trivial (.refl _) (zda _ _)
  ·rw [show qcs s i = 0 by rw [qcs, if_neg h2, hdead]; rfl]
   refine goA ?_
   exact zbw () rfl rfl rfl trivial (.refl _) (zda _ _)
 ·rw [if_neg h1, if_neg h1, show qcs s i = 0 by rw [qcs, if_neg (by omega), hdead]; rfl]
  obtain ⟨k, rfl⟩ := Int.eq_ofNat_of_zero_le (show 0 ≤ i by omega)
  refine goA ?_
  refine zku (m' := pgL s d) (fun w h => zim (m := []) h) ?_
  unfold pgL
  obtain ⟨rb, off, ha, hcell⟩ : ∃ rb off, a = some ⟨rb, off, none⟩ ∧ w.rangeAt rb off (zaf bs) := by
   rcases hr with h | ⟨rb, off, ha, hc⟩
   ·rw [h] at hbl; cases hbl
   ·exact ⟨rb, off, ha, hc⟩
  have hF := hap rb off ha
  subst ha
  refine zde [4, 0, 1, 2, 3] rfl rfl ?_
  refine zaq [1, 2, 3, 4] 9 rfl rfl (by kernel_rfl) ?_
  refine goE ?_
  refine d_v [] rfl rfl (by kernel_rfl) (fun _ h => goH h) rfl rfl (zuy rfl rfl (by decide)) ?_
  refine goE ?_
  refine d_v [] rfl rfl (by kernel_rfl) (fun _ h => goH h) rfl rfl (zfi (xs := zaf bs) (c := (zaf bs).toArray) rfl (by rw [hbl]; rfl) (fun w' hw' => zbg hcell hF hw') rfl) ?_
  refine zyg 33 _ (.map (some s.cb)) rfl rfl ?_
  refine zau 8 ⟨by kernel_rfl, by decide⟩ rfl rfl (zjd (h := k) (v := pgV bs) rfl rfl rfl rfl rfl rfl (okI (by omega))) (fun _ _ h => goH h) fun _ => ?_
  refine zbs (by kernel_rfl) ?_
  refine goA ?_
  rw [← zn6]
  exact zb3 (m' := [pgI { s with C := zep s.C k bs } d]) (fun w' hw' => zf5 (m := []) (hw'.pick [1, 2, 3, 4, 0] rfl rfl)) (zbw () rfl rfl rfl trivial (.refl _) (zda _ _))
def pageB (s : Pg) (D : Dsk) (i : Nat) : Bys := ((s.C.lookup i).or (s.K.lookup i)).getD (zch D (2 + s.g.h.secs + i))
def zc4 (s : Pg) (D : Dsk) (i : Nat) : Pg := if ((s.C.lookup i).or (s.K.lookup i)).isSome then s else { s with K := zep s.K i (zch D (2 + s.g.h.secs + i)) }
structure Pg.Ok (s : Pg) (D : Dsk) : Prop where
 n : s.n ≤ 1024
 secs : s.g.h.secs < 65536
 room : 2 + s.g.h.secs + s.n ≤ D.on.length
 C : s.C.Ok s.n
 K : s.K.Ok s.n
theorem zds (s : Pg) (d : Dk) : ∀ it ∈ [pgI s d, dkI d], it.Stable none' := by
 intro it hm
 rcases hm with _ | ⟨_, _ | ⟨_, hm⟩⟩
 ·exact zco s d
 ·exact zad _
 ·exact nomatch hm
theorem zse (b : Nat) (bs : Bys) (s : Pg) (d : Dk) : ∀ it ∈ [rdI b bs, pgI s d, dkI d], it.Stable none' := by
 intro it hm
 rcases hm with _ | ⟨_, hm⟩
 ·exact zfb _ _
 ·exact zds s d it hm
theorem zos {s : Pg} {d : Dk} {w w0 : World} {F : Nat → Prop} {x : Eng.Item} {m : List Eng.Item} (h : Hp w0 F (x :: (pgL s d ++ m)) w) : Hp w0 F (x :: pgI s d :: m) w :=
 (zf5 (m := x :: m) (h.perm List.perm_middle.symm)).perm (.swap _ _ _)
theorem qqj {b : Nat} {bs : Bys} {E : TypeId} {w w0 : World} {F : Nat → Prop} {m : List Eng.Item} (h : Hp w0 F (pt b (.cells (zaf bs).toArray E (0, 0)) :: m) w) : Hp w0 F (rdI b bs :: m) w :=
 h.imp (fun _ h => h) (fun hp => ⟨za7 hp, (Array.getElem?_eq_some_iff.1 hp).1⟩) ((zfb _ _).ro _)
theorem znd (s : Pg) (d : Dk) (ok : d.D.Ok) (hlive : d.D.dead = false) (hwl : d.D.wait.length ≤ 1000000000) (hdead : s.dead = false) (sok : s.Ok d.D) (i : Nat) (hi : i < s.n) (w : World) (hw : ∀ it ∈ [pgI s d, dkI d], za2 it w) (ha : [pgI s d, dkI d].Pairwise Eng.Item.Apart) :
  Ct Tryz.prog 54 #[.pointer (some ⟨s.b, 0, none⟩), .int .i64 (i : Int)] w (zap [pgI s d, dkI d]) (fun b : Nat => .tuple #[.slice (some ⟨b, 0, none⟩) 512 512, .int .i64 0]) (fun _ => True) (fun b => [rdI b (pageB s d.D i), pgI (zc4 s d.D i) d, dkI d]) := by
 refine zbd [_, _] _ Tryz.func54 rfl rfl hw ha ?_
 obtain ⟨hn, hsecs, hroom, hC, hK⟩ := sok
 simp only [zaa, Nat.reduceAdd]
 refine goA ?_
 refine zae rfl (zag rfl (by kernel_rfl) rfl (fun w1 hw1 => zon s d i w1 (za2.of (hw1.item _ (.head _)) (zco s d)))) fun _ => ?_
 rw [show qcs s i = 0 by rw [qcs, if_neg (by omega), hdead]; rfl]
 refine goA ?_
 refine zku (m' := pgL s d ++ [dkI d]) (fun w h => zim (m := [dkI d]) h) ?_
 unfold pgL
 refine zaq [0, 1, 2, 3, 4, 5] 10 rfl rfl (by kernel_rfl) ?_
 refine goE ?_
 refine d_v [9] rfl rfl (by kernel_rfl) (fun _ h => goH h) rfl rfl (qac rfl rfl rfl rfl rfl) ?_
 refine goE ?_
 refine zbs (by kernel_rfl) ?_
 refine qq1 [(0, .pointer (some ⟨s.b, 0, none⟩)), (1, .int .i64 (i : Int)), (27, .agg #[.map (some s.cb), .map (some s.kb)]), (28, .int .i64 (0 : Nat))] (pgL s d ++ [dkI d]) ⟨rfl, rfl, rfl, rfl, trivial⟩ (fun w h => h) ?_
 refine goA ?_
 refine zct (α := Nat) (fun k => [(0, .pointer (some ⟨s.b, 0, none⟩)), (1, .int .i64 (i : Int)), (27, .agg #[.map (some s.cb), .map (some s.kb)]), (28, .int .i64 k)]) (fun k => k ≤ 2 ∧ (1 ≤ k → s.C.lookup i = none) ∧ (2 ≤ k → s.K.lookup i = none)) (fun k => pgL s d ++ [dkI d]) (fun k => 2 - k) 0 ⟨rfl, rfl, rfl, rfl, trivial⟩ ⟨by omega, by omega, by omega⟩ (fun w h => h) fun k ⟨hk, hk1, hk2⟩ => ?_
 unfold pgL
 by_cases hlt : k < 2
 ·obtain ⟨mb, A, hv, hm, hA, hs1, hs2⟩ : ∃ (mb : Nat) (A : PR), (#[Value.map (some s.cb), .map (some s.kb)] : Array Value)[k]? = some (.map (some mb)) ∧ zd6 .i64 mb (toP A) ∈ pgL s d ++ [dkI d] ∧ A.Ok s.n ∧ (∀ bs, A.lookup i = some bs → pageB s d.D i = bs ∧ zc4 s d.D i = s) ∧ (A.lookup i = none → (1 ≤ k + 1 → s.C.lookup i = none) ∧ (2 ≤ k + 1 → s.K.lookup i = none)) := by
   match k, hlt with
   | 0, _ => exact ⟨s.cb, s.C, rfl, by simp [pgL], hC, fun bs hb => by unfold pageB zc4; rw [hb]; exact ⟨rfl, rfl⟩, fun hb => ⟨fun _ => hb, fun h => absurd h (by omega)⟩⟩
   | 1, _ =>
    have hc := hk1 (by omega)
    exact ⟨s.kb, s.K, rfl, by simp [pgL], hK, fun bs hb => by unfold pageB zc4; rw [hc, hb]; exact ⟨rfl, rfl⟩, fun hb => ⟨fun _ => hc, fun _ => hb⟩⟩
  refine goA ?_
  refine l_w rfl (qds rfl rfl rfl rfl rfl hlt hv) ?_
  refine goA ?_
  refine l_w rfl (qfb (q := .i64) (h := i) rfl rfl rfl rfl rfl (okI (by omega)) hm) ?_
  rw [zq6]
  cases hb : A.lookup i with
  | some bs =>
   obtain ⟨hs3, hs4⟩ := hs1 bs hb
   have hbs : (zaf bs).length = 512 := by rw [zar]; exact (hA _ (zcm hb)).2
   rw [hs3, hs4]
   simp only [Option.map_some, Option.getD_some, Option.isSome_some, pgV]
   refine goA ?_
   refine zan rfl rfl fun b9 hb9 => ?_
   refine za0 rfl (zai (cs' := (zaf bs).toArray) rfl rfl rfl (by rw [List.size_toArray, hbs]; rfl) (zel _) (by rw [List.size_toArray, hbs]; rfl)) fun _ => ?_
   refine goA ?_
   refine l_w rfl (zst (n := 512) rfl rfl rfl rfl) ?_
   refine goA ?_
   exact zb3 (m' := [rdI b9 bs, pgI s d, dkI d]) (fun w' hw' => zos (qqj hw')) (zdq b9 rfl rfl rfl rfl trivial (.refl _) (zse _ _ _ _))
  | none =>
   simp only [Option.map_none, Option.getD_none, Option.isSome_none]
   refine goA ?_
   refine zan rfl rfl fun b9 hb9 => ?_
   refine za0 rfl (zai rfl rfl rfl rfl rfl rfl) fun _ => ?_
   refine goA ?_
   obtain ⟨h3, h4⟩ := hs2 hb
   exact zay (k + 1) ⟨rfl, rfl, rfl, rfl, trivial⟩ ⟨hlt, h3, h4⟩ (fun w' hw' => hw'.sub (List.sublist_cons_self _ _)) (by omega)
 ·obtain rfl : k = 2 := by omega
  have hc := hk1 (by omega)
  have hkk := hk2 (by omega)
  have hpb : pageB s d.D i = zch d.D (2 + s.g.h.secs + i) := by unfold pageB; rw [hc, hkk]; rfl
  have hps : zc4 s d.D i = { s with K := zep s.K i (zch d.D (2 + s.g.h.secs + i)) } := by unfold zc4; rw [hc, hkk]; rfl
  rw [hpb, hps]
  have hat : 2 + s.g.h.secs + i < d.D.on.length := by omega
  have hcl := ztc ok hat
  refine goA ?_
  refine zaq [0, 1, 2, 3, 4, 5] 17 rfl rfl (by kernel_rfl) ?_
  refine goE ?_
  refine zau 8 ⟨by kernel_rfl, by decide⟩ rfl rfl (zag rfl (by kernel_rfl) rfl (fun w1 hw1 => zgp s.bl d s.g w1 (za2.of (hw1.item (lgI s.bl d s.g) (by simp)) (zac _ _ _)))) (fun _ _ h => goH h) fun _ => ?_
  refine goE ?_
  refine zau 10 ⟨by kernel_rfl, by decide⟩ rfl rfl (zag rfl (by kernel_rfl) rfl (fun w1 hw1 => zfq s.g.h.secs i (by omega) (by omega) w1)) (fun _ _ h => goH h) fun _ => ?_
  refine goE ?_
  refine qqh 11 ⟨by kernel_rfl, by decide⟩ rfl rfl rfl (by kernel_rfl) rfl (fun _ h => h) (fun w1 hw1 => zmh d ok hlive (2 + s.g.h.secs + i) hat hwl w1 (za2.of (hw1.item (dkI d) (by simp)) (zad _))) fun x hx => ?_
  refine goE ?_
  refine zbs (by kernel_rfl) ?_
  generalize zch d.D (2 + s.g.h.secs + i) = bs at hcl ⊢
  refine goA ?_
  refine ze1 (m' := [pgI s d, rdI x bs, dkI d]) (fun w' hw' => (zos hw').pick [1, 0, 2] rfl rfl) ?_
  refine zae rfl (zba (pre := [pgI s d]) rfl (by kernel_rfl) rfl (zda s d) (fun w1 hw1 hh1 ha1 => qb6 s d 0 w1 hh1)) fun ⟨_, _⟩ => ?_
  rw [show ({ s with dead := s.dead || decide ((0 : Nat) = 4) } : Pg) = s by rw [hdead]; cases s; simp only at hdead; subst hdead; rfl]
  refine goA ?_
  have hbl : (zaf bs).length = 512 := by rw [zar, hcl]
  refine zku (m' := pgL s d ++ [rdI x bs, dkI d]) (fun w h => zim (m := [rdI x bs, dkI d]) h) ?_
  unfold pgL
  refine zde [2, 0, 1, 3, 4, 5, 6] rfl rfl ?_
  refine zaq [1, 2, 3, 4, 5, 6] 9 rfl rfl (by kernel_rfl) ?_
  refine goE ?_
  refine d_v [] rfl rfl (by kernel_rfl) (fun _ h => goH h) rfl rfl (zuy rfl rfl (by decide)) ?_
  refine goE ?_
  refine d_v [] rfl rfl (by kernel_rfl) (fun _ h => goH h) rfl rfl (zfi (xs := zaf bs) (c := (zaf bs).toArray) rfl (by rw [hbl]; rfl) (fun w' hw' => (hw'.item (rdI x bs) (by simp)).1.1) rfl) ?_
  refine zau 8 ⟨by kernel_rfl, by decide⟩ rfl rfl (zjd (h := i) (v := pgV bs) rfl rfl rfl rfl rfl rfl (okI (by omega))) (fun _ _ h => goH h) fun _ => ?_
  refine zbs (by kernel_rfl) ?_
  refine goA ?_
  rw [← zn6]
  refine zb3 (m' := [rdI x bs, pgI { s with K := zep s.K i bs } d, dkI d]) (fun w' hw' => ?_) (zdq x rfl rfl rfl rfl trivial (.refl _) (zse _ _ _ _))
  exact zos (s := { s with K := zep s.K i bs }) (m := [dkI d]) (hw'.pick [5, 1, 2, 0, 3, 4, 6] rfl rfl)
def bmB (n : Nat) (S : Nat → Bool) : Bys := (List.range 512).map fun j => UInt8.ofNat (byte (zdm S n) j)
theorem zo2 (n : Nat) (S : Nat → Bool) : (bmB n S).length = 512 := by simp [bmB]
theorem zop (n : Nat) (S : Nat → Bool) : zgv S n = (zaf (bmB n S)).toArray := by
 unfold zgv zaf bmB
 rw [List.map_map]
 congr 1
 refine List.map_congr_left fun j _ => ?_
 show Value.int .u8 _ = Value.int .u8 _
 rw [UInt8.toNat_ofNat', Nat.mod_eq_of_lt (qex _ _)]
theorem qob {n : Nat} {S : Nat → Bool} {j : Nat} (hj : j < 512) : (zaf (bmB n S))[j]? = some (.int .u8 (byte (zdm S n) j : Nat)) := by
 have := zhi S n hj
 rw [zop, List.getElem?_toArray] at this
 exact this
def zqk (n : Nat) (S : Nat → Bool) : Prop := ∀ j, n ≤ j → S j = false
theorem qay {n : Nat} {S : Nat → Bool} (hn : n ≤ 1024) (hc : zqk n S) : zdm (zg2 fun j => byte (zdm S n) j) 4096 = S := funext fun i => by
 unfold zdm zg2
 by_cases hi : i < 4096
 ·have := zur (zdm S n) (i / 8) (i % 8) (Nat.mod_lt _ (by decide))
  simp only [hi, decide_true, Bool.true_and]
  unfold zdm at this
  rw [this, show 8 * (i / 8) + i % 8 = i by omega]
  by_cases h : i < n
  ·simp [h]
  ·simp [h, hc i (by omega)]
 ·simp [hi, hc i (by omega)]
theorem zsj {n k : Nat} (S : Nat → Bool) (u : Bool) (hk : k < n) : qcm n S (k : Int) u = upd S k u := by
 unfold qcm onB
 rw [decide_eq_true (show (0 : Int) ≤ (k : Int) by omega), decide_eq_true (show (k : Int) < (n : Int) by omega)]
 simp only [Bool.and_self, cond_true, Int.toNat_natCast]
theorem zr0 (s : Pg) (d : Dk) (n : Nat) (S : Nat → Bool) (i : Int) (u : Bool) (hn : n ≤ 1024) (w : World) (hw : ∀ it ∈ [pgI s d], za2 it w) :
  Ct Tryz.prog 32 #[.pointer (some ⟨s.b, 0, none⟩), .agg (zhm n S), .int .i64 i, .bool u] w (zap [pgI s d]) (fun _ : Unit => .tuple #[]) (fun _ => True) (fun _ => [pgI { s with C := zep s.C 0 (bmB n (qcm n S i u)) } d]) := by
 refine zbd [_, _, _, _] _ Tryz.func32 rfl rfl hw (.cons (fun _ h => nomatch h) .nil) ?_
 simp only [zaa, Nat.reduceAdd]
 refine zku (m' := pgL s d) (fun w h => zim (m := []) h) ?_
 unfold pgL
 refine goA ?_
 refine zb0 rfl rfl fun b5 hb5 => ?_
 refine goA ?_
 refine zde [5, 0, 1, 2, 3, 4] rfl rfl ?_
 refine zaq [1, 2, 3, 4, 5] 12 rfl rfl (by kernel_rfl) ?_
 refine goE ?_
 refine zau 7 ⟨by kernel_rfl, by decide⟩ rfl rfl (zag rfl (by kernel_rfl) rfl (fun w1 hw1 => zmg n S i u hn w1)) (fun _ _ h => goH h) fun _ => ?_
 refine goE ?_
 refine zau 8 ⟨by kernel_rfl, by decide⟩ rfl rfl (qck rfl (by kernel_rfl) rfl (fun w1 hw1 => znh n (qcm n S i u) hn w1)) (fun _ _ h => goH h) fun ⟨x, hx⟩ => ?_
 rw [zop]
 have hbl : (zaf (bmB n (qcm n S i u))).length = 512 := by rw [zar, zo2]
 generalize bmB n (qcm n S i u) = bs at hbl ⊢
 simp only [List.cons_append, List.nil_append]
 refine goE ?_
 refine d_v [] rfl rfl (by kernel_rfl) (fun _ h => goH h) rfl rfl (zuy rfl rfl (by decide)) ?_
 refine zau 10 ⟨by kernel_rfl, by decide⟩ rfl rfl (qey rfl (zfi (xs := zaf bs) (c := (zaf bs).toArray) rfl (by rw [hbl]; rfl) (fun w' hw' => za7 (hw'.get (b := x) (.head _))) rfl)) (fun _ _ h => goH h) fun _ => ?_
 refine zau 11 ⟨by kernel_rfl, by decide⟩ rfl rfl (zak (zci _ _ _) (zjd (h := 0) (v := pgV bs) rfl rfl rfl rfl rfl rfl (okI (by decide)))) (fun _ _ h => goH h) fun _ => ?_
 refine zbs (by kernel_rfl) ?_
 refine goA ?_
 rw [← zn6]
 refine zb3 (m' := [pgI { s with C := zep s.C 0 bs } d]) (fun w' hw' => ?_) (zk3 () rfl rfl trivial (.refl _) (zda _ _))
 exact zf5 (s := { s with C := zep s.C 0 bs }) (m := []) (hw'.pick [3, 4, 5, 6, 0] rfl rfl)
theorem qig (b n : Nat) (S : Nat → Bool) (h1 : 1 ≤ n) (hn : n ≤ 1024) (hc : zqk n S) (c : Nat) (w : World) (h : (rdI b (bmB n S)).prop w) : Pu Tryz.prog 55 #[.slice (some ⟨b, 0, none⟩) 512 c, .int .i64 (n : Int)] w (.tuple #[.agg (zhm n S), .int .i64 0]) := by
 have hb := qay hn hc
 have := qie b 0 c (fun j => byte (zdm S n) j) n h1 hn w (fun i hi => h.1 i _ (qob hi)) (fun j hj hb1 => by
  have h2 := congrFun hb j
  rw [show zdm (zg2 fun j => byte (zdm S n) j) 4096 j = (decide (j < 4096) && zg2 (fun j => byte (zdm S n) j) j) from rfl, hb1, decide_eq_true hj] at h2
  rcases Nat.lt_or_ge j n with h | h
  ·exact h
  ·rw [hc j h] at h2; cases h2)
 rw [hb] at this
 exact this
theorem zig (s : Pg) (d : Dk) (ok : d.D.Ok) (hlive : d.D.dead = false) (hwl : d.D.wait.length ≤ 1000000000) (hdead : s.dead = false) (sok : s.Ok d.D) (h1 : 1 ≤ s.n) (S : Nat → Bool) (hS : pageB s d.D 0 = bmB s.n S) (hc : zqk s.n S) (h0 : S 0 = true) (w : World) (hw : ∀ it ∈ [pgI s d, dkI d], za2 it w) (ha : [pgI s d, dkI d].Pairwise Eng.Item.Apart) :
  Ct Tryz.prog 30 #[.pointer (some ⟨s.b, 0, none⟩)] w (zap [pgI s d, dkI d]) (fun _ : Unit => .tuple #[.agg (zhm s.n S), .int .i64 0]) (fun _ => True) (fun _ => [pgI (zc4 s d.D 0) d, dkI d]) := by
 refine zbd [_] _ Tryz.func30 rfl rfl hw ha ?_
 simp only [zaa]
 refine goA ?_
 refine zan rfl rfl fun b2 hb2 => ?_
 refine goA ?_
 refine za1 [1, 2, 0] rfl rfl ?_
 refine zae rfl (zba (pre := [pgI s d, dkI d]) rfl (by kernel_rfl) rfl (zds s d) (fun w1 hw1 hh1 ha1 => znd s d ok hlive hwl hdead sok 0 h1 w1 hh1 ha1)) fun ⟨x, _⟩ => ?_
 rw [hS]
 have hsn : (zc4 s d.D 0).n = s.n ∧ (zc4 s d.D 0).b = s.b := by unfold zc4; split <;> exact ⟨rfl, rfl⟩
 generalize zc4 s d.D 0 = s1 at hsn ⊢
 obtain ⟨hsn, hsb⟩ := hsn
 rw [← hsb]
 dsimp only
 refine goA ?_
 refine l_w rfl (zaz (v := .int .i64 (s.n : Int)) rfl rfl (fun w' hw' => zqn (za2.of (hw'.item (pgI s1 d) (by simp)) (zco _ _)) 2 (by rw [← hsn]; rfl))) ?_
 refine goA ?_
 refine zae rfl (zag rfl (by kernel_rfl) rfl (fun w1 hw1 => qig x s.n S h1 sok.n hc 512 w1 (hw1.item (rdI x (bmB s.n S)) (by simp)).1)) fun _ => ?_
 refine goA ?_
 refine zan rfl rfl fun b6 hb6 => ?_
 refine za0 rfl (zai (cs' := zhm s.n S) rfl rfl rfl (by rw [za9]; rfl) (zex _ _) (by rw [za9]; rfl)) fun _ => ?_
 refine goA ?_
 refine zae rfl (zag rfl (by kernel_rfl) rfl (fun w1 _ => zrt s.n S 0 sok.n w1)) fun _ => ?_
 rw [show qk7 s.n S 0 = true by unfold qk7; rw [show (0 : Int).toNat = 0 from rfl, h0, Bool.or_true]]
 refine goA ?_
 refine za0 rfl (zak (zhl _ _ _ _ _ _) (zai (cs' := zhm s.n S) rfl rfl rfl (by rw [za9]; rfl) (zex _ _) (by rw [za9]; rfl))) fun _ => ?_
 refine goA ?_
 exact zdq () rfl ⟨_, rfl, zas (by rw [za9]; rfl) (.head _)⟩ rfl rfl trivial (.cons _ (.cons _ (.cons _ (.refl _)))) (zds _ _)
def tzI : Eng.Item := ⟨fun k => k = 0, fun w => qa1 w⟩
theorem zjk (ro : Nat → Prop) : tzI.Stable ro := fun _ _ h hp => ⟨(h _ (.inr rfl)).trans hp.obj⟩
def qb4 (s : Pg) (D : Dsk) (S : Nat → Bool) (i : Nat) (u : Bool) : Pg := { zc4 s D 0 with C := zep (zc4 s D 0).C 0 (bmB s.n (upd S i u)) }
theorem zun (s : Pg) (d : Dk) (ok : d.D.Ok) (hlive : d.D.dead = false) (hwl : d.D.wait.length ≤ 1000000000) (hdead : s.dead = false) (sok : s.Ok d.D) (h1 : 1 ≤ s.n) (S : Nat → Bool) (hS : pageB s d.D 0 = bmB s.n S) (hc : zqk s.n S) (h0 : S 0 = true) (i : Nat) (hi : i < s.n) (w : World) (hw : ∀ it ∈ [pgI s d, dkI d], za2 it w) (ha : [pgI s d, dkI d].Pairwise Eng.Item.Apart) :
  Ct Tryz.prog 68 #[.pointer (some ⟨s.b, 0, none⟩), .int .i64 (i : Int)] w (zap [pgI s d, dkI d]) (fun _ : Unit => .int .i64 (if i = 0 ∨ S i = false then 2 else 0 : Nat)) (fun _ => True) (fun _ => [pgI (if i = 0 ∨ S i = false then zc4 s d.D 0 else qb4 s d.D S i false) d, dkI d]) := by
 refine zbd [_, _] _ Tryz.func68 rfl rfl hw ha ?_
 simp only [zaa, Nat.reduceAdd]
 refine goA ?_
 refine zae rfl (zag rfl (by kernel_rfl) rfl (fun w1 hw1 => zon s d i w1 (za2.of (hw1.item _ (.head _)) (zco s d)))) fun _ => ?_
 rw [show qcs s i = 0 by rw [qcs, if_neg (by omega), hdead]; rfl]
 refine goA ?_
 refine zae rfl (zba (pre := [pgI s d, dkI d]) rfl (by kernel_rfl) rfl (zds s d) (fun w1 hw1 hh1 ha1 => zig s d ok hlive hwl hdead sok h1 S hS hc h0 w1 hh1 ha1)) fun ⟨_, _⟩ => ?_
 have hfr : qb4 s d.D S i false = { zc4 s d.D 0 with C := zep (zc4 s d.D 0).C 0 (bmB s.n (upd S i false)) } := rfl
 rw [hfr]
 have hsn : (zc4 s d.D 0).n = s.n ∧ (zc4 s d.D 0).b = s.b := by unfold zc4; split <;> exact ⟨rfl, rfl⟩
 generalize zc4 s d.D 0 = s1 at hsn ⊢
 obtain ⟨hsn, hsb⟩ := hsn
 rw [← hsb]
 refine goA ?_
 refine zan rfl rfl fun b6 hb6 => ?_
 refine za0 rfl (zai (cs' := zhm s.n S) rfl rfl rfl (by rw [za9]; rfl) (zex _ _) (by rw [za9]; rfl)) fun _ => ?_
 refine goA ?_
 by_cases hi0 : i = 0
 ·subst hi0
  rw [if_pos (.inl rfl), if_pos (.inl rfl)]
  refine goA ?_
  exact zbw () rfl rfl rfl trivial (.cons _ (.refl _)) (zds _ _)
 ·refine goA ?_
  refine zae rfl (zag rfl (by kernel_rfl) rfl (fun w1 _ => zrt s.n S i sok.n w1)) fun _ => ?_
  rw [show qk7 s.n S i = S i by unfold qk7 onB; simp; omega]
  cases hSi : S i with
  | false =>
   rw [if_pos (.inr rfl), if_pos (.inr rfl)]
   refine goA ?_
   exact zbw () rfl rfl rfl trivial (.cons _ (.refl _)) (zds _ _)
  | true =>
   rw [if_neg (by simp [hi0]), if_neg (by simp [hi0])]
   refine goA ?_
   refine za1 [1, 0, 2] rfl rfl ?_
   refine zae rfl (zba (pre := [pgI s1 d]) rfl (by kernel_rfl) rfl (zda s1 d) (fun w1 hw1 hh1 ha1 => zr0 s1 d s.n S i false sok.n w1 hh1)) fun ⟨_, _⟩ => ?_
   rw [zsj S false hi]
   refine goA ?_
   exact zbw () rfl rfl rfl trivial (.cons_cons _ (.cons _ (.refl _))) (zds _ _)
def zdr : Bys := List.replicate 512 0
theorem zl9 (s : Pg) (d : Dk) : ∀ it ∈ [pgI s d, dkI d, tzI], it.Stable none' := by
 intro it hm
 rcases hm with _ | ⟨_, _ | ⟨_, _ | ⟨_, hm⟩⟩⟩
 ·exact zco s d
 ·exact zad _
 ·exact zjk _
 ·exact nomatch hm
def zq9 (s : Pg) (D : Dsk) (S : Nat → Bool) (a : Nat) : Pg := { zc4 s D 0 with C := zep (zep (zc4 s D 0).C 0 (bmB s.n (upd S a true))) a zdr }
theorem zuf (s : Pg) (d : Dk) (ok : d.D.Ok) (hlive : d.D.dead = false) (hwl : d.D.wait.length ≤ 1000000000) (hdead : s.dead = false) (sok : s.Ok d.D) (S : Nat → Bool) (hS : pageB s d.D 0 = bmB s.n S) (hc : zqk s.n S) (h0 : S 0 = true) (a : Nat) (han : a < s.n) (hSa : S a = false) (hl : ∀ j, j < a → S j = true) (w : World) (hw : ∀ it ∈ [pgI s d, dkI d, tzI], za2 it w) (ha : [pgI s d, dkI d, tzI].Pairwise Eng.Item.Apart) :
  Ct Tryz.prog 11 #[.pointer (some ⟨s.b, 0, none⟩)] w (zap [pgI s d, dkI d, tzI]) (fun _ : Unit => .tuple #[.int .i64 (a : Int), .int .i64 0]) (fun _ => True) (fun _ => [pgI (zq9 s d.D S a) d, dkI d, tzI]) := by
 refine zbd [_] _ Tryz.func11 rfl rfl hw ha ?_
 simp only [zaa]
 refine goA ?_
 refine zae rfl (zba (pre := [pgI s d, dkI d]) rfl (by kernel_rfl) rfl (zds s d) (fun w1 hw1 hh1 ha1 => zig s d ok hlive hwl hdead sok (by omega) S hS hc h0 w1 hh1 ha1)) fun ⟨_, _⟩ => ?_
 have hfr : zq9 s d.D S a = { zc4 s d.D 0 with C := zep (zep (zc4 s d.D 0).C 0 (bmB s.n (upd S a true))) a zdr } := rfl
 rw [hfr]
 have hsn : (zc4 s d.D 0).n = s.n ∧ (zc4 s d.D 0).b = s.b := by unfold zc4; split <;> exact ⟨rfl, rfl⟩
 generalize zc4 s d.D 0 = s1 at hsn ⊢
 obtain ⟨hsn, hsb⟩ := hsn
 have hn := sok.n
 rw [← hsb]
 refine goA ?_
 refine zan rfl rfl fun b6 hb6 => ?_
 refine za0 rfl (zai (cs' := zhm s.n S) rfl rfl rfl (by rw [za9]; rfl) (zex _ _) (by rw [za9]; rfl)) fun _ => ?_
 refine goA ?_
 refine zae rfl (zag rfl (by kernel_rfl) rfl (fun w1 hw1 => qbq s.n S a sok.n han hSa hl w1 (hw1.item tzI (by simp)).1)) fun _ => ?_
 refine goA ?_
 refine za1 [1, 0, 2, 3] rfl rfl ?_
 refine zae rfl (zba (pre := [pgI s1 d]) rfl (by kernel_rfl) rfl (zda s1 d) (fun w1 hw1 hh1 ha1 => zr0 s1 d s.n S a true sok.n w1 hh1)) fun ⟨_, _⟩ => ?_
 rw [zsj S true han]
 refine goA ?_
 refine ze1 (m' := pgL { s1 with C := zep s1.C 0 (bmB s.n (upd S a true)) } d ++ [pt b6 (.cells (zhm s.n S) 82 (0, 0)), dkI d, tzI]) (fun w h => zim (m := [pt b6 (.cells (zhm s.n S) 82 (0, 0)), dkI d, tzI]) h) ?_
 unfold pgL
 refine goA ?_
 refine l_w rfl (qac rfl rfl rfl rfl rfl) ?_
 refine zdc 32 _ (pgV zdr) rfl (by rfl) ?_
 refine zdc 30 _ (.map (some s1.cb)) rfl rfl ?_
 refine za1 [4, 0, 1, 2, 3, 5, 6, 7] rfl rfl ?_
 refine za0 rfl (zjd (h := a) (v := pgV zdr) rfl rfl rfl rfl rfl rfl (okI (by omega))) fun _ => ?_
 simp only [← zn6]
 refine goA ?_
 refine zb3 (m' := [pgI { s1 with C := zep (zep s1.C 0 (bmB s.n (upd S a true))) a zdr } d, dkI d, tzI]) (fun w' hw' => ?_) (zdq () rfl rfl rfl rfl trivial (.refl _) (zl9 _ _))
 exact zf5 (s := { s1 with C := zep (zep s1.C 0 (bmB s.n (upd S a true))) a zdr }) (m := [dkI d, tzI]) (hw'.pick [1, 2, 3, 4, 0, 6, 7] rfl rfl)
end Go.Proofs.YtkkfifhaobjicaaGreatDoor
