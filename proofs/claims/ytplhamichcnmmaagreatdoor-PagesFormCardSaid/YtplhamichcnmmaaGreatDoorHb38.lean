/- law 8: Open as the plain law says it; what is kept of the document's stores. -/
/- law 8: Begins. -/
/- law 8: Same. -/
/- law 8: Does, a Put. -/
/- law 8: Does: Abort, nothing, Alloc. -/
/- law 8: Does: Free, Page. -/
/- law 8: Does: Page. -/
/- law 8: Commit as the plain law says it. -/
/- law 8: Does: Commit. -/
/- law 8: many puts. -/
/- law 8: Does, whatever act; Great. -/
/- law 8: Great. -/
import Derived.Test.YtplhamichcnmmaaGreatDoorHb37
namespace Go.Eng
theorem Ct.imp {P : Program} {f : FuncId} {args : Array Value} {w : World} {Fc : Nat → Prop} {α α2 : Type} {val : α → Value} {φ : α → Prop} {its : α → List Item} {val2 : α2 → Value} {φ2 : α2 → Prop} {its2 : α2 → List Item}
    (h : Ct P f args w Fc val2 φ2 its2) (k : ∀ x, φ2 x → ∃ y, val2 x = val y ∧ φ y ∧ its y = its2 x) : Ct P f args w Fc val φ its := by
  unfold Ct at h ⊢
  refine h.mono ?_
  rintro e w' ⟨x, he, hx, hi⟩
  obtain ⟨y, h1, h2, h3⟩ := k x hx
  exact ⟨y, by rw [he, h1], h2, by rw [h3]; exact hi⟩
end Go.Eng
namespace Go.Proofs.YtplhamichcnmmaaGreatDoor
open Go.RowKit Go.Eng Go.Eng.Bm
set_option maxRecDepth 100000
theorem readSN_at {Φ : Sht → Prop} (D : Dsk) (n i : Nat) (h : ∀ j, j < i → shtAt D n j = true → Φ (shtT (curF D (2 + j)))) : ∀ p ∈ readSN D n i, Φ p.2 := by
  induction i with
  | zero => exact fun _ h => nomatch h
  | succ i ih =>
    rw [readSN]
    split
    · rename_i hc
      exact insS_all (ih fun j hj => h j (Nat.lt_succ_of_lt hj)) (h i (Nat.lt_succ_self i) hc)
    · exact ih fun j hj => h j (Nat.lt_succ_of_lt hj)
abbrev oqV (x : Dk × Option Pg) : Value := .tuple #[.pointer (x.2.map fun s => ⟨s.b, 0, none⟩), .int .i64 ((if x.2.isSome then 0 else 4 : Nat) : Int)]
def oqI (x : Dk × Option Pg) : List Eng.Item := match x.2 with
  | some s => [pgI s x.1, dkI x.1, ctI]
  | none => [dkI x.1, ctI]
def oqP (d : Dk) (n secs : Nat) (note : Bys) (V : List Bys) (B : Nat) (x : Dk × Option Pg) : Prop := x.1.b = d.b ∧ match x.2 with
  | some s => Lives d.D x.1.D ∧ StX s x.1.D n secs note V [] (B + 1)
  | none => d.D.left ≠ none ∧ Off x.1.D n secs note V (B + 1)
theorem popen_calls (d : Dk) (n secs : Nat) (note : Bys) (V : List Bys) (B : Nat) (hkl : d.D.keep.length ≤ 1000000) (hr : d.D.Rest) (z : Siz d.D n secs note V) (hB : B + 1 < 9223372036854775808) (hR : ∃ h c TS, RecI d.D n secs note V B h c TS) (hp0 : ∃ S, BmIs n (V.getD 0 []) S) (w : World)
    (hw : ∀ it ∈ [dkI d, ctI], Here it w) (ha : [dkI d, ctI].Pairwise Eng.Item.Apart) :
    Ct Tryz.prog 11 #[.pointer (some ⟨d.b, 0, none⟩)] w (foots [dkI d, ctI]) oqV (oqP d n secs note V B) oqI := by
  obtain ⟨h, c, TS, R⟩ := hR
  obtain ⟨S, hS⟩ := hp0
  have hs2 := z.s2
  have hn1 := z.n1
  have hroom := z.room
  have hst := open_step z hr hB R
  have hV0 : V[0]? = some (V.getD 0 []) := by rw [List.getD_eq_getElem?_getD, List.getElem?_eq_getElem (by rw [z.Vl]; omega)]; rfl
  refine Ct.imp (pgopen_calls d z.ok hr.live hkl (by rw [hr.wait]; decide) (by omega) h c R.log.c01 (R.log.look hr.wait) R.log.hok R.log.secs (by rw [R.hs]; exact z.s2)
    (readSN_at (Φ := fun s => s.text.length ≤ 497 ∧ s.text ≠ []) _ _ _ fun j hj hs => ?_) n note R.hnote z.n1 z.n2 z.note (by rw [R.hs]; exact z.room) TS R.log.read (fun Q hQ => ⟨(R.ts.each Q hQ).1, (R.ts.each Q hQ).2.2⟩) R.ts.many S (fun he => ?_) w hw ha) ?_
  · have h1 : shtOk (curF d.D (2 + j)) = true := by unfold shtAt at hs; rw [Bool.and_eq_true] at hs; exact hs.1
    exact ⟨shtOk_text h1, (R.log.sheets j hj hs).2⟩
  · rcases hst with ⟨-, -, -, hc⟩ | ⟨h4, -⟩
    · rw [hV0] at hc
      rw [Option.some.inj hc]
      exact hS
    · rw [he] at h4; cases h4
  · rintro ⟨d', s⟩ ⟨hd, ho⟩
    simp only at hd ho
    obtain ⟨k1, k2, k3⟩ := hd
    rcases hst with ⟨e, hl, hx, -⟩ | ⟨e, hdi, hz, hrec⟩
    · refine ⟨(d', some s), ?_, ⟨k1, ?_⟩, ?_⟩
      · simp only [if_pos e, e]; rfl
      · have O := ho e
        rw [k3]
        refine ⟨hl, ⟨⟨[], hx s O⟩, fun i => by rw [O.hC], List.nodup_nil, by rw [hl.keep]; exact hkl, ⟨S, hS⟩, fun b hb => by rw [O.hC] at hb; cases hb⟩⟩
      · simp only [if_pos e]; rfl
    · have e' : ¬ (opF d.D (openG d.D h c) TS).1 = 0 := by rw [e]; decide
      refine ⟨(d', none), ?_, ⟨k1, ?_⟩, ?_⟩
      · simp only [if_neg e', e]; rfl
      · rw [k3]
        exact ⟨hdi.left, hdi.dead, hdi.wait, hdi.left', hdi.keep, hz, hrec⟩
      · simp only [if_neg e']; rfl
end Go.Proofs.YtplhamichcnmmaaGreatDoor

namespace Go.Proofs.YtplhamichcnmmaaGreatDoor
open Go.RowKit Go.Eng Go.Eng.Bm
set_option maxRecDepth 100000
set_option maxHeartbeats 40000000
structure Lw where
  xb : Nat
  s : Pg
  d : Dk
  pv : Nat
  cv : Nat
  pm : Nat
  V : List Bys
  C : PR
  A : List Eng.Item
abbrev lwA (log db sb pv n cv pm : Nat) : Array Value := #[.pointer (some ⟨db, 0, none⟩), .pointer (some ⟨sb, 0, none⟩), .slice (some ⟨pv, 0, none⟩) n cv, .map (some pm), .int .i64 (log : Int)]
abbrev lwC (log : Nat) (x : Lw) : Eng.Item := pt x.xb (.cells (lwA log x.d.b x.s.b x.pv x.V.length x.cv x.pm) 41 (0, 0))
def arI (A : List Eng.Item) : Eng.Item := bundle A
structure Ar (x : Lw) : Prop where
  stable : ∀ it ∈ x.A, it.Stable none'
  rows : rsI x.pv x.V ∈ x.A
  map : mC x.pm x.C ∈ x.A
def noteB : Bys := [110, 111, 116, 101]
structure LwOk (x : Lw) (log B : Nat) : Prop where
  st : StX x.s x.d.D 128 log noteB x.V x.C B
  ar : Ar x
  l1 : 96 ≤ log
  l2 : log ≤ 150
  hB : B ≤ 1000000000
theorem lw5_stable (log : Nat) (x : Lw) : ∀ it ∈ [lwC log x, pgI x.s x.d, dkI x.d, ctI, arI x.A], it.Stable none' := by
  intro it hm
  rcases hm with _ | ⟨_, _ | ⟨_, _ | ⟨_, _ | ⟨_, _ | ⟨_, hm⟩⟩⟩⟩⟩
  · exact pt_stable _ _ _
  · exact bundle_stable _
  · exact bundle_stable _
  · exact ctI_stable _
  · exact bundle_stable _
  · cases hm
theorem fmtnew_calls (d : Dk) (N log n : Nat) (note : Bys) (hd : d.D = newD N) (hN : N ≤ 4096) (hl1 : 96 ≤ log) (hl2 : log ≤ 512) (hn1 : 64 ≤ n) (hn2 : n ≤ 1024) (hno : note.length ≤ 40) (hroom : 2 + log + n ≤ N) (w : World) (hw : ∀ it ∈ [dkI d, ctI], Here it w) (ha : [dkI d, ctI].Pairwise Eng.Item.Apart) :
    Ct Tryz.prog 14 #[.pointer (some ⟨d.b, 0, none⟩), .int .i64 (log : Int), .int .i64 (n : Int), .string ⟨note.toArray⟩] w (foots [dkI d, ctI]) (fun _ : Dk => .int .i64 0) (fun d' => d'.b = d.b ∧ d'.D.Rest ∧ d'.D.left = none ∧ d'.D.keep.length ≤ 1000000 ∧ Siz d'.D n log note (V0 n) ∧ ∃ h, RecI d'.D n log note (V0 n) 1 h 1 []) (fun d' => [dkI d', ctI]) := by
  obtain ⟨f1, f2, f3, f6, f4, f5⟩ := fmt_new (N := N) (log := log) (n := n) (note := note) hN (by omega) hl2 hn1 hn2 hno hroom
  refine Ct.imp (pgformat_calls d (by rw [hd]; exact newD_ok hN) (by rw [hd]; rfl) (by rw [hd]; exact Nat.zero_le _) (by rw [hd]; exact Nat.zero_le _) log n note hl1 hl2 hn1 hn2 hno (by rw [hd]; show 2 + log + n ≤ (List.replicate _ _).length; rw [List.length_replicate]; omega) w hw ha) ?_
  rintro d' ⟨k1, -, k3⟩
  rw [hd] at k3
  refine ⟨d', ?_, ⟨k1, ?_⟩, rfl⟩
  · rw [hd, f1]; rfl
  · rw [k3]; exact ⟨f2, f3, by rw [f6]; exact Nat.zero_le _, f4, f5⟩
theorem begins_calls (log : Nat) (h1 : 96 ≤ log) (h2 : log ≤ 150) (w : World) (hw : ∀ it ∈ [ctI], Here it w) :
    Ct Tryz.prog 8 #[.int .i64 (log : Int)] w (foots [ctI]) (fun x : Lw => .tuple #[.pointer (some ⟨x.xb, 0, none⟩), .bool true]) (fun x => LwOk x log 2 ∧ x.d.D.left = none ∧ x.V = V0 128 ∧ x.C = []) (fun x => [lwC log x, pgI x.s x.d, dkI x.d, ctI, arI x.A]) := by
  refine cu_of [_] _ Tryz.func8 rfl rfl hw (.cons (fun _ h => nomatch h) .nil) ?_
  simp only [argSlots]
  refine goA ?_
  refine l_ctg rfl rfl (by kernel_rfl) rfl (fun w1 hw1 => dnew_calls (2 + log + 130) (by omega) w1) fun x hx => ?_
  simp only [List.cons_append, List.nil_append]
  refine goA ?_
  refine l_opg rfl (o_cu (pre := [dkI x, ctI]) rfl (by kernel_rfl) rfl (dc_stable x) (fun w1 hw1 hh1 ha1 => fmtnew_calls x (2 + log + 130) log 128 noteB hx (by omega) h1 (by omega) (by decide) (by decide) (by decide) (by omega) w1 hh1 ha1)) fun ⟨d1, k1, f2, f3, f6, f4, hh, f5⟩ => ?_
  simp only [List.cons_append, List.nil_append]
  refine goA ?_
  rw [← k1]
  refine l_opg rfl (o_cu (pre := [dkI d1, ctI]) rfl (by kernel_rfl) rfl (dc_stable d1) (fun w1 hw1 hh1 ha1 => popen_calls d1 128 log noteB (V0 128) 1 f6 f2 f4 (by decide) ⟨_, _, _, f5⟩ ⟨_, by rw [List.getD_eq_getElem?_getD, V0_at (by decide)]; exact bm0_ok 128 (by decide)⟩ w1 hh1 ha1)) fun ⟨⟨d2, so⟩, hd2⟩ => ?_
  obtain ⟨q1, q2⟩ := hd2
  cases so with
  | none => exact absurd f3 q2.1
  | some s =>
    obtain ⟨q2, q3⟩ := q2
    simp only [Option.map_some, Option.isSome_some, if_true, oqI, List.cons_append, List.nil_append]
    rw [← q1]
    refine goA ?_
    refine l_ctg rfl rfl (by kernel_rfl) rfl (fun w1 hw1 => rnew_calls 128 (by decide) (by decide) w1) fun x hx => ?_
    obtain ⟨pv, cv, pm⟩ := x
    simp only [List.cons_append, List.nil_append]
    refine goA ?_
    refine l_boxa rfl rfl fun b32 hb32 => ?_
    refine goA ?_
    have hq := q2.left f3
    refine x_imp (m' := [lwC log ⟨b32, s, d2, pv, cv, pm, V0 128, [], [rsI pv (V0 128), mC pm []]⟩, pgI s d2, dkI d2, ctI, arI [rsI pv (V0 128), mC pm []]]) (fun w' hw' => ?_) ?_
    · have h1 : Hp w (foots [ctI]) (rsI pv (V0 128) :: mC pm [] :: [lwC log ⟨b32, s, d2, pv, cv, pm, V0 128, [], [rsI pv (V0 128), mC pm []]⟩, pgI s d2, dkI d2, ctI]) w' := hw'.pick [1, 2, 0, 3, 4, 5] rfl rfl
      have h2 := Hp.close1 (L := [rsI pv (V0 128), mC pm []]) (m := [lwC log ⟨b32, s, d2, pv, cv, pm, V0 128, [], [rsI pv (V0 128), mC pm []]⟩, pgI s d2, dkI d2, ctI]) (by intro it hm; rcases hm with _ | ⟨_, _ | ⟨_, hm⟩⟩; exact rsI_stable _ _; exact mapN_stable _ _ _ _; cases hm) h1
      exact h2.pick [1, 2, 3, 4, 0] rfl rfl
    · refine x_ct2 ⟨b32, s, d2, pv, cv, pm, V0 128, [], [rsI pv (V0 128), mC pm []]⟩ rfl rfl rfl rfl ⟨⟨q3, ⟨?_, .head _, .tail _ (.head _)⟩, h1, h2, by decide⟩, hq, rfl, rfl⟩ (.refl _) ?_
      · intro it hm; rcases hm with _ | ⟨_, _ | ⟨_, hm⟩⟩; exact rsI_stable _ _; exact mapN_stable _ _ _ _; cases hm
      · exact lw5_stable _ _
end Go.Proofs.YtplhamichcnmmaaGreatDoor

namespace Go.Proofs.YtplhamichcnmmaaGreatDoor
open Go.RowKit Go.Eng Go.Eng.Bm
set_option maxRecDepth 100000
set_option maxHeartbeats 40000000
def same (V1 : List Bys) (C1 : PR) (x : Lw) (i : Nat) : Prop := ∀ j, j < i → viewF V1 C1 j = viewF x.V x.C j
end Go.Proofs.YtplhamichcnmmaaGreatDoor

namespace Go.Eng
open Go.RowKit
theorem get_has {l : Slots} : ∀ {L : Slots}, Has l L → ∀ {t : Nat} {v : Value}, get L t = some v → get l t = some v
  | [], _, _, _, h => by cases h
  | (k, u) :: r, hl, t, v, h => by
    rw [get_cons] at h
    split at h
    · rename_i hk
      cases h
      rw [← hk]; exact hl.1
    · exact get_has hl.2 h
end Go.Eng
namespace Go.Proofs.YtplhamichcnmmaaGreatDoor
open Go.RowKit Go.Eng Go.Eng.Bm
set_option maxRecDepth 100000
set_option maxHeartbeats 40000000
structure DoesP (x : Lw) (log B : Nat) (y : Lw) : Prop where
  xb : y.xb = x.xb
  db : y.d.b = x.d.b
  sub : ∀ it ∈ x.A, it ∈ y.A
  ok : LwOk y log B
  left : x.d.D.left = none → y.d.D.left = none
theorem rd_apart {w0 w : World} {F : Nat → Prop} {m : List Eng.Item} {s : Pg} {d : Dk} {b : Nat} {bs : Bys} (h : Hp w0 F (pgI s d :: rdI b bs :: m) w) : ∀ b' off, some (⟨b, 0, none⟩ : Addr) = some ⟨b', off, none⟩ → ¬ foots [pgI s d] b' := fun b' off he ⟨it, hm, hk⟩ => by
  cases he
  rw [List.mem_singleton] at hm
  subst hm
  exact (List.pairwise_cons.1 h.apart).1 (rdI b bs) (.head _) b hk rfl
end Go.Proofs.YtplhamichcnmmaaGreatDoor

namespace Go.Proofs.YtplhamichcnmmaaGreatDoor
open Go.RowKit Go.Eng Go.Eng.Bm
set_option maxRecDepth 100000
set_option maxHeartbeats 40000000
end Go.Proofs.YtplhamichcnmmaaGreatDoor

namespace Go.Proofs.YtplhamichcnmmaaGreatDoor
open Go.RowKit Go.Eng Go.Eng.Bm
set_option maxRecDepth 100000
set_option maxHeartbeats 40000000
end Go.Proofs.YtplhamichcnmmaaGreatDoor

namespace Go.Proofs.YtplhamichcnmmaaGreatDoor
open Go.RowKit Go.Eng Go.Eng.Bm
set_option maxRecDepth 100000
set_option maxHeartbeats 40000000
end Go.Proofs.YtplhamichcnmmaaGreatDoor

namespace Go.Proofs.YtplhamichcnmmaaGreatDoor
open Go.RowKit Go.Eng Go.Eng.Bm
set_option maxRecDepth 100000
def needC' (C : PR) : Nat := (514 * C.length + 496) / 497
def cmP (s : Pg) (d : Dk) (n secs : Nat) (note : Bys) (V : List Bys) (C : PR) (B : Nat) (x : Nat × Dk × Pg) : Prop := x.2.1.b = d.b ∧ x.2.2.b = s.b ∧
  ((x.1 = 6 ∧ secs < needC' C ∧ x.2.1.D = d.D ∧ x.2.2 = { s with C := [] }) ∨
   (needC' C ≤ secs ∧ x.1 = 0 ∧ Lives d.D x.2.1.D ∧ StX x.2.2 x.2.1.D n secs note (overV V C) [] (B + 601)) ∨
   (needC' C ≤ secs ∧ x.1 = 4 ∧ d.D.left ≠ none ∧ (Off x.2.1.D n secs note V (B + 601) ∨ Off x.2.1.D n secs note (overV V C) (B + 601))))
theorem cmR_b (s : Pg) (D : Dsk) (x : PR × List Nat) : (cmR s D x).b = s.b := by
  have h1 : (cm1F s D).2.2.b = s.b := by unfold cm1F; split <;> rfl
  have h2 : (cmF s D).2.2.b = s.b := by
    unfold cmF
    split
    · exact h1
    · exact h1
  unfold cmR
  split
  · exact h2
  · exact h2
theorem pcommit_calls (s : Pg) (d : Dk) (n secs : Nat) (note : Bys) (V : List Bys) (C : PR) (B : Nat) (hst : StX s d.D n secs note V C B) (hB : B + 700 < 9223372036854775808) (hC0 : s.C ≠ []) (w : World) (hw : ∀ it ∈ [pgI s d, dkI d, ctI], Here it w) (ha : [pgI s d, dkI d, ctI].Pairwise Eng.Item.Apart) :
    Ct Tryz.prog 24 #[.pointer (some ⟨s.b, 0, none⟩)] w (foots [pgI s d, dkI d, ctI]) (fun x : Nat × Dk × Pg => .int .i64 (x.1 : Int)) (cmP s d n secs note V C B) (fun x => [pgI x.2.2 x.2.1, dkI x.2.1, ctI]) := by
  have hneed := hst.need hC0
  obtain ⟨TS, h⟩ := hst.st
  have z := h.siz
  have hn := h.hn
  have hs := h.hsecs
  have hnx := h.next
  have hs2 := z.s2
  have hs1 := z.s1
  have hn2 := z.n2
  have hle := hst.le
  have hmany := hst.many
  have hneed' : needF (tC s).length = needC' C := hneed
  have hneedle : needF (tC s).length ≤ 100000 := by rw [hneed]; omega
  have hRl : s.R.length ≤ 1024 := by
    have := nodup_le h.Rn (L := List.range n) fun x hx => List.mem_range.2 (h.Rk x hx).2.2
    rw [List.length_range] at this
    omega
  have hcom := hst.commit hB hC0
  refine Ct.imp (pgcommit_calls s d z.ok hst.keep hst.wait hst.dead (by omega) h.log.hok (by omega) h.log.usedle (by omega) h.log.c01 h.log.dead (by rw [hn]; exact h.Kok) (by rw [hn]; exact h.Cok) (fun i hi => Option.isSome_iff_exists.1 (h.Rk i hi).1) hRl (by omega) hC0 w hw ha) ?_
  rintro ⟨d', x2⟩ ⟨⟨k1, -, k3⟩, kg⟩
  simp only at k1 k3 kg
  rw [hs, hneed'] at k3 kg
  simp only [hs, hneed']
  by_cases hlt : secs < needC' C
  · rw [if_pos hlt] at k3
    refine ⟨(6, d', { s with C := [] }), ?_, ⟨k1, rfl, .inl ⟨rfl, hlt, k3, rfl⟩⟩, ?_⟩
    · simp only [if_pos hlt]
    · simp only [if_pos hlt]
  · rw [if_neg hlt] at k3
    have hge : needC' C ≤ secs := by omega
    refine ⟨((cmF s d.D).1, d', cmR s d.D x2), ?_, ⟨k1, cmR_b _ _ _, .inr ?_⟩, ?_⟩
    · simp only [if_neg hlt]
    · rcases hcom hge with ⟨e, hl, hx⟩ | ⟨e, hlf, ho⟩
      · refine .inl ⟨hge, e, ?_, ?_⟩
        · show Lives d.D d'.D; rw [k3]; exact hl
        · show StX (cmR s d.D x2) d'.D n secs note (overV V C) [] (B + 601)
          rw [k3]; exact hx x2 (kg hlt e)
      · refine .inr ⟨hge, e, hlf, ?_⟩
        show Off d'.D n secs note V (B + 601) ∨ Off d'.D n secs note (overV V C) (B + 601)
        rw [k3]; exact ho
    · simp only [if_neg hlt]
end Go.Proofs.YtplhamichcnmmaaGreatDoor

namespace Go.Proofs.YtplhamichcnmmaaGreatDoor
open Go.RowKit Go.Eng Go.Eng.Bm
set_option maxRecDepth 100000
set_option maxHeartbeats 40000000
end Go.Proofs.YtplhamichcnmmaaGreatDoor

namespace Go.Eng
open Go.RowKit
end Go.Eng
namespace Go.Proofs.YtplhamichcnmmaaGreatDoor
open Go.RowKit Go.Eng Go.Eng.Bm
set_option maxRecDepth 100000
set_option maxHeartbeats 40000000
end Go.Proofs.YtplhamichcnmmaaGreatDoor

namespace Go.Proofs.YtplhamichcnmmaaGreatDoor
open Go.RowKit Go.Eng Go.Eng.Bm
set_option maxRecDepth 100000
set_option maxHeartbeats 40000000
theorem DoesP.more {x y : Lw} {log B B' : Nat} (h : DoesP x log B y) (hB : B ≤ B') (hB2 : B' ≤ 1000000000) : DoesP x log B' y :=
  ⟨h.xb, h.db, h.sub, ⟨h.ok.st.more hB, h.ok.ar, h.ok.l1, h.ok.l2, hB2⟩, h.left⟩
end Go.Proofs.YtplhamichcnmmaaGreatDoor

namespace Go.Proofs.YtplhamichcnmmaaGreatDoor
open Go.RowKit Go.Eng Go.Eng.Bm
set_option maxRecDepth 100000
set_option maxHeartbeats 40000000
structure AcT where
  k : Nat
  N : Int
  c : UInt8
  keep : Bys
def AcT.vs (a : AcT) : List Value := [.int .u8 (a.k : Int), .int .i64 a.N, .int .u8 (a.c.toNat : Int), .string ⟨a.keep.toArray⟩]
theorem AcT.sz (a : AcT) : a.vs.length = 4 := rfl
end Go.Proofs.YtplhamichcnmmaaGreatDoor
