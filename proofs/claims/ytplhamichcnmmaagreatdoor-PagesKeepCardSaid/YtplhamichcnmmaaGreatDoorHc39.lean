/- The plain law of the store: a store, and the document's. -/
/- law 8: Open as the plain law says it; what is kept of the document's stores. -/
/- law 8: Begins. -/
import Derived.Test.YtplhamichcnmmaaGreatDoorHc38
namespace Go.Proofs.YtplhamichcnmmaaGreatDoor
open Go.Eng.Bm
set_option maxRecDepth 100000
structure StX (s : Pg) (D : Dsk) (n secs : Nat) (note : Bys) (V : List Bys) (C : PR) (B : Nat) : Prop where
  st : StV s D n secs note V B
  eC : ∀ i, C.lookup i = s.C.lookup i
  hCn : (C.map (·.1)).Nodup
  keep : D.keep.length ≤ 1000000
  p0 : ∃ S, BmIs n (V.getD 0 []) S
  c0 : ∀ b, s.C.lookup 0 = some b → ∃ S, BmIs n b S
theorem nodup_at {A : PR} (hn : (A.map (·.1)).Nodup) {p : Nat × Bys} (hp : p ∈ A) : A.lookup p.1 = some p.2 := by
  induction A with
  | nil => cases hp
  | cons q A ih =>
    rw [List.map_cons, List.nodup_cons] at hn
    rw [List.lookup_cons]
    rcases List.mem_cons.1 hp with rfl | hp
    · simp
    · have : p.1 ≠ q.1 := fun h => hn.1 (h ▸ List.mem_map.2 ⟨p, hp, rfl⟩)
      rw [show (p.1 == q.1) = false by simpa using this]
      exact ih hn.2 hp
namespace StX
variable {s : Pg} {D : Dsk} {n secs : Nat} {note : Bys} {V : List Bys} {C : PR} {B : Nat}
theorem len (h : StX s D n secs note V C B) : V.length = n := by obtain ⟨TS, h1⟩ := h.st; exact h1.siz.Vl
theorem Cok (h : StX s D n secs note V C B) : C.Ok n := fun p hp => by
  obtain ⟨TS, h1⟩ := h.st
  have := nodup_at h.hCn hp
  rw [h.eC] at this
  exact h1.Cok _ (lookup_memG this)
theorem many (h : StX s D n secs note V C B) : C.length = s.C.length := by
  obtain ⟨TS, h1⟩ := h.st
  exact rows_same h.eC h.hCn h1.Cn
theorem le (h : StX s D n secs note V C B) : C.length ≤ n := keys_le h.Cok h.hCn
theorem view (h : StX s D n secs note V C B) (i : Nat) : viewF V C i = viewF V s.C i := by unfold viewF; rw [h.eC]
theorem pageB (h : StX s D n secs note V C B) {i : Nat} (hi : i < n) : pageB s D i = viewF V C i := by
  obtain ⟨TS, h1⟩ := h.st
  rw [h1.view hi, h.view]
theorem page (h : StX s D n secs note V C B) {i : Nat} (hi : i < n) : StX (pageS s D i) D n secs note V C B := by
  obtain ⟨TS, h1⟩ := h.st
  exact ⟨⟨TS, h1.page hi⟩, by rw [pageS_C]; exact h.eC, h.hCn, h.keep, h.p0, by rw [pageS_C]; exact h.c0⟩
theorem bm (h : StX s D n secs note V C B) : ∃ S, BmIs n (viewF V C 0) S := by
  rw [h.view]
  unfold viewF
  cases hc : s.C.lookup 0 with
  | some b => exact h.c0 b hc
  | none => exact h.p0
theorem with_lookup (h : StX s D n secs note V C B) (i : Nat) (b : Bys) (j : Nat) : (withF V.length C i b).lookup j = if j = i then some b else C.lookup j := by
  unfold withF
  rw [insG_lookup, cpF_lookup]
  split
  · rfl
  · split
    · rfl
    · rename_i h1 h2
      cases hc : C.lookup j with
      | none => rfl
      | some x =>
        have := (h.Cok _ (lookup_memG hc)).1
        rw [h.len] at h2
        exact absurd this h2
theorem ins (h : StX s D n secs note V C B) {i : Nat} {b : Bys} (hi : i < n) (hb : b.length = 512) (h0 : i = 0 → ∃ S, BmIs n b S) : StX { s with C := insG s.C i b } D n secs note V (withF V.length C i b) B := by
  obtain ⟨TS, h1⟩ := h.st
  refine ⟨⟨TS, h1.ins hi hb⟩, fun j => ?_, insG_nodup (cpF_nodup _ _), h.keep, h.p0, fun x hx => ?_⟩
  · rw [h.with_lookup]
    show _ = (insG s.C i b).lookup j
    rw [insG_lookup, h.eC]
  · have hx : (insG s.C i b).lookup 0 = some x := hx
    rw [insG_lookup] at hx
    split at hx
    · rename_i h2
      cases hx
      exact h0 h2.symm
    · exact h.c0 x hx
theorem abort (h : StX s D n secs note V C B) : StX { s with C := [] } D n secs note V [] B := by
  obtain ⟨TS, h1⟩ := h.st
  exact ⟨⟨TS, h1.setC (fun _ h => nomatch h) List.nodup_nil⟩, fun _ => rfl, List.nodup_nil, h.keep, h.p0, fun b hb => (nomatch hb)⟩
theorem over (h : StX s D n secs note V C B) : overV V C = overV V s.C := overV_ext h.eC
theorem over0 (h : StX s D n secs note V C B) (h0 : 0 < n) : ∃ S, BmIs n ((overV V C).getD 0 []) S := by
  rw [over_view (by rw [h.len]; exact h0)]
  exact h.bm
theorem more (h : StX s D n secs note V C B) {B' : Nat} (hB : B ≤ B') : StX s D n secs note V C B' := by
  obtain ⟨TS, h1⟩ := h.st
  exact ⟨⟨TS, h1.more hB⟩, h.eC, h.hCn, h.keep, h.p0, h.c0⟩
theorem siz (h : StX s D n secs note V C B) : Siz D n secs note V := by obtain ⟨TS, h1⟩ := h.st; exact h1.siz
theorem rest (h : StX s D n secs note V C B) : D.Rest := by obtain ⟨TS, h1⟩ := h.st; exact h1.rest
theorem vlen (h : StX s D n secs note V C B) {i : Nat} (hi : i < n) : (viewF V C i).length = 512 := by
  unfold viewF
  cases hc : C.lookup i with
  | some b => exact (h.Cok _ (lookup_memG hc)).2
  | none =>
    show (V.getD i []).length = 512
    have hl := h.len
    rw [List.getD_eq_getElem?_getD, List.getElem?_eq_getElem (by omega)]
    exact h.siz.Vs _ (List.getElem_mem _)
theorem ok (h : StX s D n secs note V C B) : s.Ok D := by obtain ⟨TS, h1⟩ := h.st; exact h1.ok
theorem dead (h : StX s D n secs note V C B) : s.dead = false := by obtain ⟨TS, h1⟩ := h.st; exact h1.dead
theorem hn (h : StX s D n secs note V C B) : s.n = n := by obtain ⟨TS, h1⟩ := h.st; exact h1.hn
theorem wait (h : StX s D n secs note V C B) : D.wait.length ≤ 10000 := by rw [h.rest.wait]; decide
theorem need (h : StX s D n secs note V C B) (h0 : s.C ≠ []) : needF (tC s).length = (514 * C.length + 496) / 497 := by
  obtain ⟨TS, h1⟩ := h.st
  rw [needC h1.Cok h0, h.many]
theorem commit (h : StX s D n secs note V C B) (hB : B + 700 < 9223372036854775808) (hC0 : s.C ≠ []) (hneed : (514 * C.length + 496) / 497 ≤ secs) :
    ((cmF s D).1 = 0 ∧ Lives D (cmF s D).2.1 ∧ ∀ x, kepsG (cmF s D).2.2 x → StX (cmR s D x) (cmF s D).2.1 n secs note (overV V C) [] (B + 601)) ∨
    ((cmF s D).1 = 4 ∧ D.left ≠ none ∧ (Off (cmF s D).2.1 n secs note V (B + 601) ∨ Off (cmF s D).2.1 n secs note (overV V C) (B + 601))) := by
  have hn0 : 0 < n := by have := h.siz.n1; omega
  rcases cm_step h.st hB hC0 (by rw [h.need hC0]; exact hneed) with ⟨e, hl, hx⟩ | ⟨e, hd⟩
  · left
    refine ⟨e, hl, fun x hk => ?_⟩
    have := hx x hk
    have hcm : (cmR s D x).C = [] := by unfold cmR; rw [if_pos e]
    refine ⟨by rw [h.over]; exact this, fun i => by rw [hcm], List.nodup_nil, by rw [hl.keep]; exact h.keep, h.over0 hn0, fun b hb => by rw [hcm] at hb; cases hb⟩
  · right
    rw [← h.over] at hd
    refine ⟨e, ?_, ?_⟩
    · rcases hd with hd | hd
      · exact hd.1.left
      · exact hd.1.left
    · exact hd.imp (fun h => h.off) (fun h => h.off)
end StX
theorem overV_nil (V : List Bys) : overV V [] = V := by
  rw [← ovK_all]
  have : ∀ k, ovK V [] k = V := fun k => by
    induction k with
    | zero => exact ovK_zero V []
    | succ k ih => rw [ovK_same V [] rfl]; exact ih
  exact this _
end Go.Proofs.YtplhamichcnmmaaGreatDoor

namespace Go.Eng
theorem Ct.imp {P : Program} {f : FuncId} {args : Array Value} {w : World} {Fc : Nat → Prop} {α α2 : Type} {val : α → Value} {φ : α → Prop} {its : α → List Item} {val2 : α2 → Value} {φ2 : α2 → Prop} {its2 : α2 → List Item}
    (h : Ct P f args w Fc val2 φ2 its2) (k : ∀ x, φ2 x → ∃ y, val2 x = val y ∧ φ y ∧ its y = its2 x) : Ct P f args w Fc val φ its := by
  unfold Ct at h ⊢
  refine h.mono ?_
  rintro e w' ⟨x, he, hx, hi⟩
  obtain ⟨y, h1, h2, h3⟩ := k x hx
  exact ⟨y, by rw [he, h1], h2, by rw [h3]; exact hi⟩
end Go.Eng
namespace Go.Proofs.YtplhamichcnmmaaGreatDoor
open Go.RowKit Go.Eng Go.Eng.Bm
set_option maxRecDepth 100000
theorem readSN_at {Φ : Sht → Prop} (D : Dsk) (n i : Nat) (h : ∀ j, j < i → shtAt D n j = true → Φ (shtT (curF D (2 + j)))) : ∀ p ∈ readSN D n i, Φ p.2 := by
  induction i with
  | zero => exact fun _ h => nomatch h
  | succ i ih =>
    rw [readSN]
    split
    · rename_i hc
      exact insS_all (ih fun j hj => h j (Nat.lt_succ_of_lt hj)) (h i (Nat.lt_succ_self i) hc)
    · exact ih fun j hj => h j (Nat.lt_succ_of_lt hj)
abbrev oqV (x : Dk × Option Pg) : Value := .tuple #[.pointer (x.2.map fun s => ⟨s.b, 0, none⟩), .int .i64 ((if x.2.isSome then 0 else 4 : Nat) : Int)]
def oqI (x : Dk × Option Pg) : List Eng.Item := match x.2 with
  | some s => [pgI s x.1, dkI x.1, ctI]
  | none => [dkI x.1, ctI]
def oqP (d : Dk) (n secs : Nat) (note : Bys) (V : List Bys) (B : Nat) (x : Dk × Option Pg) : Prop := x.1.b = d.b ∧ match x.2 with
  | some s => Lives d.D x.1.D ∧ StX s x.1.D n secs note V [] (B + 1)
  | none => d.D.left ≠ none ∧ Off x.1.D n secs note V (B + 1)
theorem popen_calls (d : Dk) (n secs : Nat) (note : Bys) (V : List Bys) (B : Nat) (hkl : d.D.keep.length ≤ 1000000) (hr : d.D.Rest) (z : Siz d.D n secs note V) (hB : B + 1 < 9223372036854775808) (hR : ∃ h c TS, RecI d.D n secs note V B h c TS) (hp0 : ∃ S, BmIs n (V.getD 0 []) S) (w : World)
    (hw : ∀ it ∈ [dkI d, ctI], Here it w) (ha : [dkI d, ctI].Pairwise Eng.Item.Apart) :
    Ct Tryz.prog 11 #[.pointer (some ⟨d.b, 0, none⟩)] w (foots [dkI d, ctI]) oqV (oqP d n secs note V B) oqI := by
  obtain ⟨h, c, TS, R⟩ := hR
  obtain ⟨S, hS⟩ := hp0
  have hs2 := z.s2
  have hn1 := z.n1
  have hroom := z.room
  have hst := open_step z hr hB R
  have hV0 : V[0]? = some (V.getD 0 []) := by rw [List.getD_eq_getElem?_getD, List.getElem?_eq_getElem (by rw [z.Vl]; omega)]; rfl
  refine Ct.imp (pgopen_calls d z.ok hr.live hkl (by rw [hr.wait]; decide) (by omega) h c R.log.c01 (R.log.look hr.wait) R.log.hok R.log.secs (by rw [R.hs]; exact z.s2)
    (readSN_at (Φ := fun s => s.text.length ≤ 497 ∧ s.text ≠ []) _ _ _ fun j hj hs => ?_) n note R.hnote z.n1 z.n2 z.note (by rw [R.hs]; exact z.room) TS R.log.read (fun Q hQ => ⟨(R.ts.each Q hQ).1, (R.ts.each Q hQ).2.2⟩) R.ts.many S (fun he => ?_) w hw ha) ?_
  · have h1 : shtOk (curF d.D (2 + j)) = true := by unfold shtAt at hs; rw [Bool.and_eq_true] at hs; exact hs.1
    exact ⟨shtOk_text h1, (R.log.sheets j hj hs).2⟩
  · rcases hst with ⟨-, -, -, hc⟩ | ⟨h4, -⟩
    · rw [hV0] at hc
      rw [Option.some.inj hc]
      exact hS
    · rw [he] at h4; cases h4
  · rintro ⟨d', s⟩ ⟨hd, ho⟩
    simp only at hd ho
    obtain ⟨k1, k2, k3⟩ := hd
    rcases hst with ⟨e, hl, hx, -⟩ | ⟨e, hdi, hz, hrec⟩
    · refine ⟨(d', some s), ?_, ⟨k1, ?_⟩, ?_⟩
      · simp only [if_pos e, e]; rfl
      · have O := ho e
        rw [k3]
        refine ⟨hl, ⟨⟨[], hx s O⟩, fun i => by rw [O.hC], List.nodup_nil, by rw [hl.keep]; exact hkl, ⟨S, hS⟩, fun b hb => by rw [O.hC] at hb; cases hb⟩⟩
      · simp only [if_pos e]; rfl
    · have e' : ¬ (opF d.D (openG d.D h c) TS).1 = 0 := by rw [e]; decide
      refine ⟨(d', none), ?_, ⟨k1, ?_⟩, ?_⟩
      · simp only [if_neg e', e]; rfl
      · rw [k3]
        exact ⟨hdi.left, hdi.dead, hdi.wait, hdi.left', hdi.keep, hz, hrec⟩
      · simp only [if_neg e']; rfl
end Go.Proofs.YtplhamichcnmmaaGreatDoor

namespace Go.Proofs.YtplhamichcnmmaaGreatDoor
open Go.RowKit Go.Eng Go.Eng.Bm
set_option maxRecDepth 100000
set_option maxHeartbeats 40000000
structure Lw where
  xb : Nat
  s : Pg
  d : Dk
  pv : Nat
  cv : Nat
  pm : Nat
  V : List Bys
  C : PR
  A : List Eng.Item
abbrev lwA (log db sb pv n cv pm : Nat) : Array Value := #[.pointer (some ⟨db, 0, none⟩), .pointer (some ⟨sb, 0, none⟩), .slice (some ⟨pv, 0, none⟩) n cv, .map (some pm), .int .i64 (log : Int)]
abbrev lwC (log : Nat) (x : Lw) : Eng.Item := pt x.xb (.cells (lwA log x.d.b x.s.b x.pv x.V.length x.cv x.pm) 41 (0, 0))
def arI (A : List Eng.Item) : Eng.Item := bundle A
structure Ar (x : Lw) : Prop where
  stable : ∀ it ∈ x.A, it.Stable none'
  rows : rsI x.pv x.V ∈ x.A
  map : mC x.pm x.C ∈ x.A
theorem ar_add {w0 w : World} {F : Nat → Prop} {it : Eng.Item} {A m : List Eng.Item} (hs : it.Stable none') (hA : ∀ it ∈ A, it.Stable none') (h : Hp w0 F (it :: arI A :: m) w) : Hp w0 F (arI (it :: A) :: m) w := by
  have h1 : Hp w0 F (arI A :: it :: m) w := h.perm (.swap _ _ _)
  have h2 : Hp w0 F (A ++ it :: m) w := Hp.open1 h1
  refine Hp.close1 (L := it :: A) (m := m) (fun x hx => ?_) (h2.perm ?_)
  · rcases List.mem_cons.1 hx with rfl | hx
    · exact hs
    · exact hA x hx
  · exact List.perm_middle
theorem ar_here {A : List Eng.Item} {w : World} (h : Here (arI A) w) {it : Eng.Item} (hm : it ∈ A) : Here it w := h.1.1 it hm
theorem ar_stable (A : List Eng.Item) : (arI A).Stable none' := bundle_stable A
def noteB : Bys := [110, 111, 116, 101]
structure LwOk (x : Lw) (log B : Nat) : Prop where
  st : StX x.s x.d.D 128 log noteB x.V x.C B
  ar : Ar x
  l1 : 96 ≤ log
  l2 : log ≤ 150
  hB : B ≤ 1000000000
theorem lw5_stable (log : Nat) (x : Lw) : ∀ it ∈ [lwC log x, pgI x.s x.d, dkI x.d, ctI, arI x.A], it.Stable none' := by
  intro it hm
  rcases hm with _ | ⟨_, _ | ⟨_, _ | ⟨_, _ | ⟨_, _ | ⟨_, hm⟩⟩⟩⟩⟩
  · exact pt_stable _ _ _
  · exact bundle_stable _
  · exact bundle_stable _
  · exact ctI_stable _
  · exact bundle_stable _
  · cases hm
def lwL (log : Nat) (x : Lw) : List Eng.Item := [lwC log x, pgI x.s x.d, dkI x.d, ctI, tzI, arI x.A]
theorem lw_stable (log : Nat) (x : Lw) : ∀ it ∈ lwL log x, it.Stable none' := by
  intro it hm
  rcases hm with _ | ⟨_, _ | ⟨_, _ | ⟨_, _ | ⟨_, _ | ⟨_, _ | ⟨_, hm⟩⟩⟩⟩⟩⟩
  · exact pt_stable _ _ _
  · exact bundle_stable _
  · exact bundle_stable _
  · exact ctI_stable _
  · exact tzI_stable _
  · exact bundle_stable _
  · cases hm
theorem fmtnew_calls (d : Dk) (N log n : Nat) (note : Bys) (hd : d.D = newD N) (hN : N ≤ 4096) (hl1 : 96 ≤ log) (hl2 : log ≤ 512) (hn1 : 64 ≤ n) (hn2 : n ≤ 1024) (hno : note.length ≤ 40) (hroom : 2 + log + n ≤ N) (w : World) (hw : ∀ it ∈ [dkI d, ctI], Here it w) (ha : [dkI d, ctI].Pairwise Eng.Item.Apart) :
    Ct Tryz.prog 14 #[.pointer (some ⟨d.b, 0, none⟩), .int .i64 (log : Int), .int .i64 (n : Int), .string ⟨note.toArray⟩] w (foots [dkI d, ctI]) (fun _ : Dk => .int .i64 0) (fun d' => d'.b = d.b ∧ d'.D.Rest ∧ d'.D.left = none ∧ d'.D.keep.length ≤ 1000000 ∧ Siz d'.D n log note (V0 n) ∧ ∃ h, RecI d'.D n log note (V0 n) 1 h 1 []) (fun d' => [dkI d', ctI]) := by
  obtain ⟨f1, f2, f3, f6, f4, f5⟩ := fmt_new (N := N) (log := log) (n := n) (note := note) hN (by omega) hl2 hn1 hn2 hno hroom
  refine Ct.imp (pgformat_calls d (by rw [hd]; exact newD_ok hN) (by rw [hd]; rfl) (by rw [hd]; exact Nat.zero_le _) (by rw [hd]; exact Nat.zero_le _) log n note hl1 hl2 hn1 hn2 hno (by rw [hd]; show 2 + log + n ≤ (List.replicate _ _).length; rw [List.length_replicate]; omega) w hw ha) ?_
  rintro d' ⟨k1, -, k3⟩
  rw [hd] at k3
  refine ⟨d', ?_, ⟨k1, ?_⟩, rfl⟩
  · rw [hd, f1]; rfl
  · rw [k3]; exact ⟨f2, f3, by rw [f6]; exact Nat.zero_le _, f4, f5⟩
theorem begins_calls (log : Nat) (h1 : 96 ≤ log) (h2 : log ≤ 150) (w : World) (hw : ∀ it ∈ [ctI], Here it w) :
    Ct Tryz.prog 8 #[.int .i64 (log : Int)] w (foots [ctI]) (fun x : Lw => .tuple #[.pointer (some ⟨x.xb, 0, none⟩), .bool true]) (fun x => LwOk x log 2 ∧ x.d.D.left = none ∧ x.V = V0 128 ∧ x.C = []) (fun x => [lwC log x, pgI x.s x.d, dkI x.d, ctI, arI x.A]) := by
  refine cu_of [_] _ Tryz.func8 rfl rfl hw (.cons (fun _ h => nomatch h) .nil) ?_
  simp only [argSlots]
  refine goA ?_
  refine l_ctg rfl rfl (by kernel_rfl) rfl (fun w1 hw1 => dnew_calls (2 + log + 130) (by omega) w1) fun x hx => ?_
  simp only [List.cons_append, List.nil_append]
  refine goA ?_
  refine l_opg rfl (o_cu (pre := [dkI x, ctI]) rfl (by kernel_rfl) rfl (dc_stable x) (fun w1 hw1 hh1 ha1 => fmtnew_calls x (2 + log + 130) log 128 noteB hx (by omega) h1 (by omega) (by decide) (by decide) (by decide) (by omega) w1 hh1 ha1)) fun ⟨d1, k1, f2, f3, f6, f4, hh, f5⟩ => ?_
  simp only [List.cons_append, List.nil_append]
  refine goA ?_
  rw [← k1]
  refine l_opg rfl (o_cu (pre := [dkI d1, ctI]) rfl (by kernel_rfl) rfl (dc_stable d1) (fun w1 hw1 hh1 ha1 => popen_calls d1 128 log noteB (V0 128) 1 f6 f2 f4 (by decide) ⟨_, _, _, f5⟩ ⟨_, by rw [List.getD_eq_getElem?_getD, V0_at (by decide)]; exact bm0_ok 128 (by decide)⟩ w1 hh1 ha1)) fun ⟨⟨d2, so⟩, hd2⟩ => ?_
  obtain ⟨q1, q2⟩ := hd2
  cases so with
  | none => exact absurd f3 q2.1
  | some s =>
    obtain ⟨q2, q3⟩ := q2
    simp only [Option.map_some, Option.isSome_some, if_true, oqI, List.cons_append, List.nil_append]
    rw [← q1]
    refine goA ?_
    refine l_ctg rfl rfl (by kernel_rfl) rfl (fun w1 hw1 => rnew_calls 128 (by decide) (by decide) w1) fun x hx => ?_
    obtain ⟨pv, cv, pm⟩ := x
    simp only [List.cons_append, List.nil_append]
    refine goA ?_
    refine l_boxa rfl rfl fun b32 hb32 => ?_
    refine goA ?_
    have hq := q2.left f3
    refine x_imp (m' := [lwC log ⟨b32, s, d2, pv, cv, pm, V0 128, [], [rsI pv (V0 128), mC pm []]⟩, pgI s d2, dkI d2, ctI, arI [rsI pv (V0 128), mC pm []]]) (fun w' hw' => ?_) ?_
    · have h1 : Hp w (foots [ctI]) (rsI pv (V0 128) :: mC pm [] :: [lwC log ⟨b32, s, d2, pv, cv, pm, V0 128, [], [rsI pv (V0 128), mC pm []]⟩, pgI s d2, dkI d2, ctI]) w' := hw'.pick [1, 2, 0, 3, 4, 5] rfl rfl
      have h2 := Hp.close1 (L := [rsI pv (V0 128), mC pm []]) (m := [lwC log ⟨b32, s, d2, pv, cv, pm, V0 128, [], [rsI pv (V0 128), mC pm []]⟩, pgI s d2, dkI d2, ctI]) (by intro it hm; rcases hm with _ | ⟨_, _ | ⟨_, hm⟩⟩; exact rsI_stable _ _; exact mapN_stable _ _ _ _; cases hm) h1
      exact h2.pick [1, 2, 3, 4, 0] rfl rfl
    · refine x_ct2 ⟨b32, s, d2, pv, cv, pm, V0 128, [], [rsI pv (V0 128), mC pm []]⟩ rfl rfl rfl rfl ⟨⟨q3, ⟨?_, .head _, .tail _ (.head _)⟩, h1, h2, by decide⟩, hq, rfl, rfl⟩ (.refl _) ?_
      · intro it hm; rcases hm with _ | ⟨_, _ | ⟨_, hm⟩⟩; exact rsI_stable _ _; exact mapN_stable _ _ _ _; cases hm
      · exact lw5_stable _ _
end Go.Proofs.YtplhamichcnmmaaGreatDoor
