/- package pages: says, Abort, Put, Page. -/
/- package pages: Page. -/
import Derived.Test.YtplhamichcnmmaaGreatDoorHc26
namespace Go.Eng
open Go.RowKit
section
variable {P : Program} {Q : Exit → Act → World → Prop} {N : Fm} {l : Slots} {H : World → Prop} {w0 : World} {F : Nat → Prop} {m : List Item} {ty : TypeId} {pos : String} {after : Array Edge} {g : Option (Nat × Bool)} {op : Op} {x : Operand} {b : Nat} {q : IntKind} {T : TypeId} {A : NRows}
theorem o_mem0 {α : Type} {val : α → Value} {H' : α → World → Prop} (hok : (noSel op && known l op) = true) (hr : ∀ w, H w → ∃ x w', (execOp (ev l) ⟨none, op, ty, pos, after, g⟩).run P w = .ok (.value (val x)) w' ∧ H' x w') :
    HO P ⟨none, op, ty, pos, after, g⟩ Q N l H (fun _ => l) H' := by
  simp only [Bool.and_eq_true] at hok
  unfold HO
  intro a w s hw K hK
  refine ⟨noSel_def hok.1, ?_⟩
  obtain ⟨x, w', hr, hw'⟩ := hr w hw
  unfold Oper.wp
  rw [s.exec _ (noSel_spec hok.1) hok.2, hr]
  exact hK x _ _ s hw'
theorem o_clearN0 {T' : TypeId} (hok : (noSel (.call ⟨.builtin .clear, #[x], #[T]⟩) && known l (.call ⟨.builtin .clear, #[x], #[T]⟩)) = true) (hx : evO l x = some (.map (some b))) (hT : (P.underlying T).isSome = true) :
    HO P ⟨none, .call ⟨.builtin .clear, #[x], #[T]⟩, T', pos, after, g⟩ Q N l (Hp w0 F (mapN q b A :: m)) (α := Unit) (fun _ => l) (fun _ => Hp w0 F (mapN q b [] :: m)) :=
  o_mem0 (val := fun _ => .tuple #[]) hok (fun w hw => by
    obtain ⟨es, clk, h3, R⟩ := (hw.item _ (.head _)).1
    have hg : (getObj b).run P w = .ok (.map es clk) w := by simp [getObj, Sem.run, h3]
    have hset : ∀ o, (setObj b o).run P w = .ok () (w.putObj b o) := fun o => by simp [setObj, Sem.run, h3, World.putObj]
    have hw1 : Hp w0 F (pt b (.map es clk) :: m) w := hw.imp (fun _ h => h) (fun _ => h3) (pt_stable _ _ _)
    obtain ⟨u, hu⟩ := Option.isSome_iff_exists.1 hT
    refine ⟨(), w.putObj b (.map #[] clk), ?_, (hw1.put _).imp (fun _ h => h) (fun hp => ⟨_, _, hp, ⟨.nil, (fun _ h => nomatch h), rfl, .nil, (fun _ h => nomatch h)⟩⟩) (mapN_stable _ _ _ _)⟩
    simp only [execOp, resolve, invoke, builtin]
    simp [ev_of hx, Builtin.clear_, run_underlying hu w, hg, hset])
end
end Go.Eng
namespace Go.Proofs.YtplhamichcnmmaaGreatDoor
open Go.RowKit Go.Eng Go.Eng.Bm
set_option maxRecDepth 100000
set_option maxHeartbeats 40000000
section ins
variable {β : Type}
def insG (B : List (Nat × β)) (h : Nat) (s : β) : List (Nat × β) := if (B.lookup h).isSome then B.map (fun p => if p.1 = h then (h, s) else p) else B ++ [(h, s)]
def toG (enc : β → Value) (B : List (Nat × β)) : NRows := B.map fun p => (p.1, enc p.2)
theorem toG_lookup (enc : β → Value) (B : List (Nat × β)) (n : Nat) : (toG enc B).lookup n = (B.lookup n).map enc := by
  unfold toG
  induction B with
  | nil => rfl
  | cons p B ih =>
    rw [List.map_cons, List.lookup_cons, List.lookup_cons]
    cases h : n == p.1 with
    | true => rfl
    | false => exact ih
theorem toG_ins (enc : β → Value) (B : List (Nat × β)) (h : Nat) (s : β) : toG enc (insG B h s) = insN (toG enc B) h (enc s) := by
  unfold insG insN
  rw [toG_lookup, Option.isSome_map]
  split
  · unfold toG
    rw [List.map_map, List.map_map]
    refine List.map_congr_left fun p _ => ?_
    show (_, _) = _
    by_cases hp : p.1 = h
    · simp [hp]
    · simp [hp]
  · unfold toG
    rw [List.map_append]; rfl
theorem insG_lookup (B : List (Nat × β)) (h : Nat) (s : β) (k : Nat) : (insG B h s).lookup k = if k = h then some s else B.lookup k := by
  unfold insG
  split
  · rename_i hs
    have : ∀ L : List (Nat × β), (L.map fun p => if p.1 = h then (h, s) else p).lookup k = if k = h then (L.lookup k).map (fun _ => s) else L.lookup k := by
      intro L
      induction L with
      | nil => simp
      | cons p L ih =>
        obtain ⟨q, x⟩ := p
        rw [List.map_cons]
        by_cases hq : q = h
        · subst hq
          rw [if_pos rfl, List.lookup_cons, List.lookup_cons]
          by_cases hk : k = q
          · subst hk; simp
          · have : (k == q) = false := by simpa using hk
            rw [this]
            simp only [if_neg hk] at ih ⊢
            exact ih
        · rw [if_neg hq, List.lookup_cons, List.lookup_cons, ih]
          by_cases hk : k = q
          · subst hk
            simp [hq]
          · have : (k == q) = false := by simpa using hk
            rw [this]
    rw [this]
    by_cases hk : k = h
    · subst hk
      rw [if_pos rfl, if_pos rfl]
      cases hb : B.lookup k with
      | none => rw [hb] at hs; cases hs
      | some x => rfl
    · rw [if_neg hk, if_neg hk]
  · rename_i hs
    have hs' : B.lookup h = none := by
      cases hb : B.lookup h with
      | none => rfl
      | some x => rw [hb] at hs; exact absurd rfl hs
    by_cases hk : k = h
    · subst hk
      rw [if_pos rfl, List.lookup_append, hs']
      simp
    · rw [if_neg hk, List.lookup_append]
      have : ([(h, s)] : List (Nat × β)).lookup k = none := by
        rw [List.lookup_cons, show (k == h) = false by simpa using hk]; rfl
      rw [this]
      cases B.lookup k <;> rfl
theorem insG_mem {B : List (Nat × β)} {h : Nat} {s : β} {p : Nat × β} (hp : p ∈ insG B h s) : p = (h, s) ∨ p ∈ B := by
  unfold insG at hp
  split at hp
  · obtain ⟨q, hq, rfl⟩ := List.mem_map.1 hp
    split
    · exact .inl rfl
    · exact .inr hq
  · rcases List.mem_append.1 hp with hp | hp
    · exact .inr hp
    · exact .inl (List.mem_singleton.1 hp)
theorem lookup_memG {B : List (Nat × β)} {n : Nat} {s : β} (h : B.lookup n = some s) : (n, s) ∈ B := by
  induction B with
  | nil => cases h
  | cons p B ih =>
    obtain ⟨q, x⟩ := p
    rw [List.lookup_cons] at h
    by_cases hk : n = q
    · subst hk
      simp at h
      subst h
      exact .head _
    · have : (n == q) = false := by simpa using hk
      rw [this] at h
      exact .tail _ (ih h)
end ins
theorem toP_ins (A : PR) (h : Nat) (s : Bys) : toP (insG A h s) = insN (toP A) h (pgV s) := toG_ins pgV A h s
theorem toP_lookup (A : PR) (h : Nat) : (toP A).lookup h = (A.lookup h).map pgV := toG_lookup pgV A h
def PR.Ok (A : PR) (n : Nat) : Prop := ∀ p ∈ A, p.1 < n ∧ p.2.length = 512
theorem PR.Ok.ins {A : PR} {n h : Nat} {s : Bys} (hA : A.Ok n) (hh : h < n) (hs : s.length = 512) : PR.Ok (insG A h s) n := fun p hp => by
  rcases insG_mem hp with rfl | hp
  · exact ⟨hh, hs⟩
  · exact hA p hp
theorem okI {n : Nat} (h : n ≤ 1000000) : okN .i64 n := by
  unfold okN
  simp [Lit.wf, IntKind.min, IntKind.max, IntKind.signed, IntKind.bits]
  omega
theorem pg1_stable (s : Pg) (d : Dk) : ∀ it ∈ [pgI s d], it.Stable none' := by
  intro it hm
  rcases hm with _ | ⟨_, hm⟩
  · exact pgI_stable s d
  · exact nomatch hm
theorem says_calls (s : Pg) (d : Dk) (e : Nat) (w : World) (hw : ∀ it ∈ [pgI s d], Here it w) : Ct Tryz.prog 69 #[.pointer (some ⟨s.b, 0, none⟩), .int .i64 (e : Int)] w (foots [pgI s d]) (fun _ : Unit => .int .i64 (e : Int)) (fun _ => True) (fun _ => [pgI { s with dead := s.dead || decide (e = 4) } d]) := by
  refine cu_of [_, _] _ Tryz.func69 rfl rfl hw (.cons (fun _ h => nomatch h) .nil) ?_
  simp only [argSlots, Nat.reduceAdd]
  refine t_imp (m' := pgL s d) (fun w h => pg_open (m := []) h) ?_
  unfold pgL
  obtain ⟨b, bl, kb, db, cb, g, n, note, K, R, C, dead⟩ := s
  simp only
  have hend : ∀ x : Bool, ∀ w', Hp w (foots [pgI ⟨b, bl, kb, db, cb, g, n, note, K, R, C, dead⟩ d]) (pgL ⟨b, bl, kb, db, cb, g, n, note, K, R, C, x⟩ d) w' → Hp w (foots [pgI ⟨b, bl, kb, db, cb, g, n, note, K, R, C, dead⟩ d]) [pgI ⟨b, bl, kb, db, cb, g, n, note, K, R, C, x⟩ d] w' := fun x w' hw' => pg_close (m := []) (by rw [List.append_nil]; exact hw')
  cases dead with
  | true =>
    refine goA ?_
    refine l_op rfl (o_store1 rfl rfl rfl rfl rfl rfl (show (7 : Nat) < 8 from by decide)) fun _ => ?_
    refine goA ?_
    exact x_imp (hend true) (x_ct () rfl rfl rfl trivial (.refl _) (pg1_stable _ _))
  | false =>
    by_cases he : e = 4
    · subst he
      refine goA ?_
      refine l_op rfl (o_store1 rfl rfl rfl rfl rfl rfl (show (7 : Nat) < 8 from by decide)) fun _ => ?_
      refine goA ?_
      exact x_imp (hend true) (x_ct () rfl rfl rfl trivial (.refl _) (pg1_stable _ _))
    · have he2 : decide (e = 4) = false := by simp [he]
      have he3 : ((e : Int) == 4) = false := by simp; omega
      rw [he2]
      refine goA ?_
      rw [he3]
      refine l_op rfl (o_store1 rfl rfl rfl rfl rfl rfl (show (7 : Nat) < 8 from by decide)) fun _ => ?_
      refine goA ?_
      exact x_imp (hend false) (x_ct () rfl rfl rfl trivial (.refl _) (pg1_stable _ _))
theorem abort_calls (s : Pg) (d : Dk) (w : World) (hw : ∀ it ∈ [pgI s d], Here it w) : Ct Tryz.prog 21 #[.pointer (some ⟨s.b, 0, none⟩)] w (foots [pgI s d]) (fun _ : Unit => .tuple #[]) (fun _ => True) (fun _ => [pgI { s with C := [] } d]) := by
  refine cu_of [_] _ Tryz.func21 rfl rfl hw (.cons (fun _ h => nomatch h) .nil) ?_
  simp only [argSlots]
  refine t_imp (m' := pgL s d) (fun w h => pg_open (m := []) h) ?_
  unfold pgL
  refine goA ?_
  refine l_say 7 _ (.map (some s.cb)) rfl rfl ?_
  refine l_pick [4, 0, 1, 2, 3] rfl rfl ?_
  refine l_op rfl (o_clearN0 rfl rfl rfl) fun _ => ?_
  refine goA ?_
  exact x_imp (m' := [pgI { s with C := [] } d]) (fun w' hw' => pg_close (m := []) (hw'.pick [1, 2, 3, 4, 0] rfl rfl)) (x_ct0N () rfl rfl trivial (.refl _) (pg1_stable _ _))
theorem pgput_calls (s : Pg) (d : Dk) (i : Int) (bs : Bys) (hbs : bs.length = 512) (a : Option Addr) (c : Nat) (hdead : s.dead = false) (hn : s.n ≤ 1024) (w : World) (hw : ∀ it ∈ [pgI s d], Here it w) (hr : Rd w a (bytesV bs)) (hap : ∀ b off, a = some ⟨b, off, none⟩ → ¬ foots [pgI s d] b) :
    Ct Tryz.prog 22 #[.pointer (some ⟨s.b, 0, none⟩), .int .i64 i, .slice a 512 c] w (foots [pgI s d]) (fun _ : Unit => .int .i64 (if i < 1 ∨ (s.n : Int) ≤ i then 2 else 0 : Nat)) (fun _ => True) (fun _ => [pgI (if i < 1 ∨ (s.n : Int) ≤ i then s else { s with C := insG s.C i.toNat bs }) d]) := by
  refine cu_of [_, _, _] _ Tryz.func22 rfl rfl hw (.cons (fun _ h => nomatch h) .nil) ?_
  simp only [argSlots, Nat.reduceAdd]
  refine goA ?_
  refine l_opg rfl (o_pure rfl (by kernel_rfl) rfl (fun w1 hw1 => may_calls s d i w1 (Here.of (hw1.item _ (.head _)) (pgI_stable s d)))) fun _ => ?_
  have hbl : (bytesV bs).length = 512 := by rw [bytesV_length, hbs]
  by_cases h1 : i < 1 ∨ (s.n : Int) ≤ i
  · rw [if_pos h1, if_pos h1]
    by_cases h2 : i < 0 ∨ (s.n : Int) ≤ i
    · rw [show mayK s i = 2 by rw [mayK, if_pos h2]]
      refine goA ?_
      exact x_ct () rfl rfl rfl trivial (.refl _) (pg1_stable _ _)
    · rw [show mayK s i = 0 by rw [mayK, if_neg h2, hdead]; rfl]
      refine goA ?_
      exact x_ct () rfl rfl rfl trivial (.refl _) (pg1_stable _ _)
  · rw [if_neg h1, if_neg h1, show mayK s i = 0 by rw [mayK, if_neg (by omega), hdead]; rfl]
    obtain ⟨k, rfl⟩ := Int.eq_ofNat_of_zero_le (show 0 ≤ i by omega)
    refine goA ?_
    refine t_imp (m' := pgL s d) (fun w h => pg_open (m := []) h) ?_
    unfold pgL
    obtain ⟨rb, off, ha, hcell⟩ : ∃ rb off, a = some ⟨rb, off, none⟩ ∧ w.rangeAt rb off (bytesV bs) := by
      rcases hr with h | ⟨rb, off, ha, hc⟩
      · rw [h] at hbl; cases hbl
      · exact ⟨rb, off, ha, hc⟩
    have hF := hap rb off ha
    subst ha
    refine t_pick [4, 0, 1, 2, 3] rfl rfl ?_
    refine t_drawm [1, 2, 3, 4] 9 rfl rfl (by kernel_rfl) ?_
    refine goE ?_
    refine d_v [] rfl rfl (by kernel_rfl) (fun _ h => by first | exact h | exact Hp.sub h (.cons _ (.refl _)) | exact Hp.sub h (.cons _ (.cons _ (.refl _))) | exact Hp.sub h (.cons _ (.cons _ (.cons _ (.refl _)))) | exact Hp.sub h (.cons _ (.cons _ (.cons _ (.cons _ (.refl _))))) | exact Hp.sub h (.cons _ (.cons _ (.cons _ (.cons _ (.cons _ (.refl _)))))) | exact Hp.sub h (.cons _ (.cons _ (.cons _ (.cons _ (.cons _ (.cons _ (.refl _))))))) | exact Hp.sub h (.cons_cons _ (.cons_cons _ (List.nil_sublist _))) | exact Hp.sub h (.cons _ (.cons_cons _ (.cons_cons _ (List.nil_sublist _))))) rfl rfl (v_s2ap rfl rfl (by decide)) ?_
    refine goE ?_
    refine d_v [] rfl rfl (by kernel_rfl) (fun _ h => by first | exact h | exact Hp.sub h (.cons _ (.refl _)) | exact Hp.sub h (.cons _ (.cons _ (.refl _))) | exact Hp.sub h (.cons _ (.cons _ (.cons _ (.refl _)))) | exact Hp.sub h (.cons _ (.cons _ (.cons _ (.cons _ (.refl _))))) | exact Hp.sub h (.cons _ (.cons _ (.cons _ (.cons _ (.cons _ (.refl _)))))) | exact Hp.sub h (.cons _ (.cons _ (.cons _ (.cons _ (.cons _ (.cons _ (.refl _))))))) | exact Hp.sub h (.cons_cons _ (.cons_cons _ (List.nil_sublist _))) | exact Hp.sub h (.cons _ (.cons_cons _ (.cons_cons _ (List.nil_sublist _))))) rfl rfl (v_loadcE (xs := bytesV bs) (c := (bytesV bs).toArray) rfl (by rw [hbl]; rfl) (fun w' hw' => rangeAt_old hcell hF hw') rfl) ?_
    refine d_say 33 _ (.map (some s.cb)) rfl rfl ?_
    refine d_opg 8 ⟨by kernel_rfl, by decide⟩ rfl rfl (o_mapupN (h := k) (v := pgV bs) rfl rfl rfl rfl rfl rfl (okI (by omega))) (fun _ _ h => goH h) fun _ => ?_
    refine d_end (by kernel_rfl) ?_
    refine goA ?_
    rw [← toP_ins]
    exact x_imp (m' := [pgI { s with C := insG s.C k bs } d]) (fun w' hw' => pg_close (m := []) (hw'.pick [1, 2, 3, 4, 0] rfl rfl)) (x_ct () rfl rfl rfl trivial (.refl _) (pg1_stable _ _))
end Go.Proofs.YtplhamichcnmmaaGreatDoor

namespace Go.Proofs.YtplhamichcnmmaaGreatDoor
open Go.RowKit Go.Eng Go.Eng.Bm
set_option maxRecDepth 100000
set_option maxHeartbeats 40000000
def pageB (s : Pg) (D : Dsk) (i : Nat) : Bys := ((s.C.lookup i).or (s.K.lookup i)).getD (curF D (2 + s.g.h.secs + i))
def pageS (s : Pg) (D : Dsk) (i : Nat) : Pg := if ((s.C.lookup i).or (s.K.lookup i)).isSome then s else { s with K := insG s.K i (curF D (2 + s.g.h.secs + i)) }
structure Pg.Ok (s : Pg) (D : Dsk) : Prop where
  n : s.n ≤ 1024
  secs : s.g.h.secs < 65536
  room : 2 + s.g.h.secs + s.n ≤ D.on.length
  C : s.C.Ok s.n
  K : s.K.Ok s.n
theorem pd_stable (s : Pg) (d : Dk) : ∀ it ∈ [pgI s d, dkI d], it.Stable none' := by
  intro it hm
  rcases hm with _ | ⟨_, _ | ⟨_, hm⟩⟩
  · exact pgI_stable s d
  · exact bundle_stable _
  · exact nomatch hm
theorem rpd_stable (b : Nat) (bs : Bys) (s : Pg) (d : Dk) : ∀ it ∈ [rdI b bs, pgI s d, dkI d], it.Stable none' := by
  intro it hm
  rcases hm with _ | ⟨_, hm⟩
  · exact rdI_stable _ _
  · exact pd_stable s d it hm
theorem pg_close1 {s : Pg} {d : Dk} {w w0 : World} {F : Nat → Prop} {x : Eng.Item} {m : List Eng.Item} (h : Hp w0 F (x :: (pgL s d ++ m)) w) : Hp w0 F (x :: pgI s d :: m) w :=
  (pg_close (m := x :: m) (h.perm List.perm_middle.symm)).perm (.swap _ _ _)
theorem rd_of {b : Nat} {bs : Bys} {E : TypeId} {w w0 : World} {F : Nat → Prop} {m : List Eng.Item} (h : Hp w0 F (pt b (.cells (bytesV bs).toArray E (0, 0)) :: m) w) : Hp w0 F (rdI b bs :: m) w :=
  h.imp (fun _ h => h) (fun hp => ⟨rangeAt_pt hp, (Array.getElem?_eq_some_iff.1 hp).1⟩) ((rdI_stable _ _).ro _)
theorem pgpage_bad (s : Pg) (d : Dk) (i : Int) (hi : i < 0 ∨ (s.n : Int) ≤ i) (w : World) (h : Here (pgI s d) w) : Pu Tryz.prog 19 #[.pointer (some ⟨s.b, 0, none⟩), .int .i64 i] w (.tuple #[.slice none 0 0, .int .i64 2]) := by
  refine pu_of [_, _] Tryz.func19 rfl rfl ?_
  simp only [argSlots, Nat.reduceAdd]
  refine goA ?_
  refine l_opg rfl (o_pure rfl (by kernel_rfl) rfl (fun w1 hw1 => may_calls s d i w1 (h.keep hw1))) fun _ => ?_
  rw [show mayK s i = 2 by rw [mayK, if_pos hi]]
  refine goA ?_
  exact x_pu2 rfl rfl rfl rfl
theorem pgpage_calls (s : Pg) (d : Dk) (ok : d.D.Ok) (hlive : d.D.dead = false) (hwl : d.D.wait.length ≤ 1000000000) (hdead : s.dead = false) (sok : s.Ok d.D) (i : Nat) (hi : i < s.n) (w : World) (hw : ∀ it ∈ [pgI s d, dkI d], Here it w) (ha : [pgI s d, dkI d].Pairwise Eng.Item.Apart) :
    Ct Tryz.prog 19 #[.pointer (some ⟨s.b, 0, none⟩), .int .i64 (i : Int)] w (foots [pgI s d, dkI d]) (fun b : Nat => .tuple #[.slice (some ⟨b, 0, none⟩) 512 512, .int .i64 0]) (fun _ => True) (fun b => [rdI b (pageB s d.D i), pgI (pageS s d.D i) d, dkI d]) := by
  refine cu_of [_, _] _ Tryz.func19 rfl rfl hw ha ?_
  obtain ⟨hn, hsecs, hroom, hC, hK⟩ := sok
  simp only [argSlots, Nat.reduceAdd]
  refine goA ?_
  refine l_opg rfl (o_pure rfl (by kernel_rfl) rfl (fun w1 hw1 => may_calls s d i w1 (Here.of (hw1.item _ (.head _)) (pgI_stable s d)))) fun _ => ?_
  rw [show mayK s i = 0 by rw [mayK, if_neg (by omega), hdead]; rfl]
  refine goA ?_
  refine t_imp (m' := pgL s d ++ [dkI d]) (fun w h => pg_open (m := [dkI d]) h) ?_
  unfold pgL
  refine t_drawm [0, 1, 2, 3, 4, 5] 10 rfl rfl (by kernel_rfl) ?_
  refine goE ?_
  refine d_v [9] rfl rfl (by kernel_rfl) (fun _ h => by first | exact h | exact Hp.sub h (.cons _ (.refl _)) | exact Hp.sub h (.cons _ (.cons _ (.refl _))) | exact Hp.sub h (.cons _ (.cons _ (.cons _ (.refl _)))) | exact Hp.sub h (.cons _ (.cons _ (.cons _ (.cons _ (.refl _))))) | exact Hp.sub h (.cons _ (.cons _ (.cons _ (.cons _ (.cons _ (.refl _)))))) | exact Hp.sub h (.cons _ (.cons _ (.cons _ (.cons _ (.cons _ (.cons _ (.refl _))))))) | exact Hp.sub h (.cons_cons _ (.cons_cons _ (List.nil_sublist _))) | exact Hp.sub h (.cons _ (.cons_cons _ (.cons_cons _ (List.nil_sublist _))))) rfl rfl (v_builda rfl rfl rfl rfl rfl) ?_
  refine goE ?_
  refine d_end (by kernel_rfl) ?_
  refine x_to [(0, .pointer (some ⟨s.b, 0, none⟩)), (1, .int .i64 (i : Int)), (27, .agg #[.map (some s.cb), .map (some s.kb)]), (28, .int .i64 (0 : Nat))] (pgL s d ++ [dkI d]) ⟨rfl, rfl, rfl, rfl, trivial⟩ (fun w h => h) ?_
  refine goA ?_
  refine t_for (α := Nat) (fun k => [(0, .pointer (some ⟨s.b, 0, none⟩)), (1, .int .i64 (i : Int)), (27, .agg #[.map (some s.cb), .map (some s.kb)]), (28, .int .i64 k)]) (fun k => k ≤ 2 ∧ (1 ≤ k → s.C.lookup i = none) ∧ (2 ≤ k → s.K.lookup i = none)) (fun k => pgL s d ++ [dkI d]) (fun k => 2 - k) 0 ⟨rfl, rfl, rfl, rfl, trivial⟩ ⟨by omega, by omega, by omega⟩ (fun w h => h) fun k ⟨hk, hk1, hk2⟩ => ?_
  unfold pgL
  by_cases hlt : k < 2
  · obtain ⟨mb, A, hv, hm, hA, hs1, hs2⟩ : ∃ (mb : Nat) (A : PR), (#[Value.map (some s.cb), .map (some s.kb)] : Array Value)[k]? = some (.map (some mb)) ∧ mapN .i64 mb (toP A) ∈ pgL s d ++ [dkI d] ∧ A.Ok s.n ∧ (∀ bs, A.lookup i = some bs → pageB s d.D i = bs ∧ pageS s d.D i = s) ∧ (A.lookup i = none → (1 ≤ k + 1 → s.C.lookup i = none) ∧ (2 ≤ k + 1 → s.K.lookup i = none)) := by
      match k, hlt with
      | 0, _ => exact ⟨s.cb, s.C, rfl, by simp [pgL], hC, fun bs hb => by unfold pageB pageS; rw [hb]; exact ⟨rfl, rfl⟩, fun hb => ⟨fun _ => hb, fun h => absurd h (by omega)⟩⟩
      | 1, _ =>
        have hc := hk1 (by omega)
        exact ⟨s.kb, s.K, rfl, by simp [pgL], hK, fun bs hb => by unfold pageB pageS; rw [hc, hb]; exact ⟨rfl, rfl⟩, fun hb => ⟨fun _ => hc, fun _ => hb⟩⟩
    refine goA ?_
    refine l_w rfl (v_arrat rfl rfl rfl rfl rfl hlt hv) ?_
    refine goA ?_
    refine l_w rfl (v_lookN (q := .i64) (h := i) rfl rfl rfl rfl rfl (okI (by omega)) hm) ?_
    rw [toP_lookup]
    cases hb : A.lookup i with
    | some bs =>
      obtain ⟨hs3, hs4⟩ := hs1 bs hb
      have hbs : (bytesV bs).length = 512 := by rw [bytesV_length]; exact (hA _ (lookup_memG hb)).2
      rw [hs3, hs4]
      simp only [Option.map_some, Option.getD_some, Option.isSome_some, pgV]
      refine goA ?_
      refine l_alloca rfl rfl fun b9 hb9 => ?_
      refine l_op rfl (o_storea (cs' := (bytesV bs).toArray) rfl rfl rfl (by rw [List.size_toArray, hbs]; rfl) (bytesV_one _) (by rw [List.size_toArray, hbs]; rfl)) fun _ => ?_
      refine goA ?_
      refine l_w rfl (v_slarr (n := 512) rfl rfl rfl rfl) ?_
      refine goA ?_
      exact x_imp (m' := [rdI b9 bs, pgI s d, dkI d]) (fun w' hw' => pg_close1 (rd_of hw')) (x_ct2 b9 rfl rfl rfl rfl trivial (.refl _) (rpd_stable _ _ _ _))
    | none =>
      simp only [Option.map_none, Option.getD_none, Option.isSome_none]
      refine goA ?_
      refine l_alloca rfl rfl fun b9 hb9 => ?_
      refine l_op rfl (o_storea rfl rfl rfl rfl rfl rfl) fun _ => ?_
      refine goA ?_
      obtain ⟨h3, h4⟩ := hs2 hb
      exact x_round (k + 1) ⟨rfl, rfl, rfl, rfl, trivial⟩ ⟨hlt, h3, h4⟩ (fun w' hw' => hw'.sub (List.sublist_cons_self _ _)) (by omega)
  · obtain rfl : k = 2 := by omega
    have hc := hk1 (by omega)
    have hkk := hk2 (by omega)
    have hpb : pageB s d.D i = curF d.D (2 + s.g.h.secs + i) := by unfold pageB; rw [hc, hkk]; rfl
    have hps : pageS s d.D i = { s with K := insG s.K i (curF d.D (2 + s.g.h.secs + i)) } := by unfold pageS; rw [hc, hkk]; rfl
    rw [hpb, hps]
    have hat : 2 + s.g.h.secs + i < d.D.on.length := by omega
    have hcl := cur_len ok hat
    refine goA ?_
    refine t_drawm [0, 1, 2, 3, 4, 5] 17 rfl rfl (by kernel_rfl) ?_
    refine goE ?_
    refine d_opg 8 ⟨by kernel_rfl, by decide⟩ rfl rfl (o_pure rfl (by kernel_rfl) rfl (fun w1 hw1 => lgsectors_calls s.bl d s.g w1 (Here.of (hw1.item (lgI s.bl d s.g) (by simp)) (pt_stable _ _ _)))) (fun _ _ h => goH h) fun _ => ?_
    refine goE ?_
    refine d_opg 10 ⟨by kernel_rfl, by decide⟩ rfl rfl (o_pure rfl (by kernel_rfl) rfl (fun w1 hw1 => sector_calls s.g.h.secs i (by omega) (by omega) w1)) (fun _ _ h => goH h) fun _ => ?_
    refine goE ?_
    refine d_ctg 11 ⟨by kernel_rfl, by decide⟩ rfl rfl rfl (by kernel_rfl) rfl (fun _ h => h) (fun w1 hw1 => read_calls d ok hlive (2 + s.g.h.secs + i) hat hwl w1 (Here.of (hw1.item (dkI d) (by simp)) (bundle_stable _))) fun x hx => ?_
    refine goE ?_
    refine d_end (by kernel_rfl) ?_
    generalize curF d.D (2 + s.g.h.secs + i) = bs at hcl ⊢
    refine goA ?_
    refine l_imp (m' := [pgI s d, rdI x bs, dkI d]) (fun w' hw' => (pg_close1 hw').pick [1, 0, 2] rfl rfl) ?_
    refine l_opg rfl (o_cu (pre := [pgI s d]) rfl (by kernel_rfl) rfl (pg1_stable s d) (fun w1 hw1 hh1 ha1 => says_calls s d 0 w1 hh1)) fun ⟨_, _⟩ => ?_
    rw [show ({ s with dead := s.dead || decide ((0 : Nat) = 4) } : Pg) = s by rw [hdead]; cases s; simp only at hdead; subst hdead; rfl]
    refine goA ?_
    have hbl : (bytesV bs).length = 512 := by rw [bytesV_length, hcl]
    refine t_imp (m' := pgL s d ++ [rdI x bs, dkI d]) (fun w h => pg_open (m := [rdI x bs, dkI d]) h) ?_
    unfold pgL
    refine t_pick [2, 0, 1, 3, 4, 5, 6] rfl rfl ?_
    refine t_drawm [1, 2, 3, 4, 5, 6] 9 rfl rfl (by kernel_rfl) ?_
    refine goE ?_
    refine d_v [] rfl rfl (by kernel_rfl) (fun _ h => by first | exact h | exact Hp.sub h (.cons _ (.refl _)) | exact Hp.sub h (.cons _ (.cons _ (.refl _))) | exact Hp.sub h (.cons _ (.cons _ (.cons _ (.refl _)))) | exact Hp.sub h (.cons _ (.cons _ (.cons _ (.cons _ (.refl _))))) | exact Hp.sub h (.cons _ (.cons _ (.cons _ (.cons _ (.cons _ (.refl _)))))) | exact Hp.sub h (.cons _ (.cons _ (.cons _ (.cons _ (.cons _ (.cons _ (.refl _))))))) | exact Hp.sub h (.cons_cons _ (.cons_cons _ (List.nil_sublist _))) | exact Hp.sub h (.cons _ (.cons_cons _ (.cons_cons _ (List.nil_sublist _))))) rfl rfl (v_s2ap rfl rfl (by decide)) ?_
    refine goE ?_
    refine d_v [] rfl rfl (by kernel_rfl) (fun _ h => by first | exact h | exact Hp.sub h (.cons _ (.refl _)) | exact Hp.sub h (.cons _ (.cons _ (.refl _))) | exact Hp.sub h (.cons _ (.cons _ (.cons _ (.refl _)))) | exact Hp.sub h (.cons _ (.cons _ (.cons _ (.cons _ (.refl _))))) | exact Hp.sub h (.cons _ (.cons _ (.cons _ (.cons _ (.cons _ (.refl _)))))) | exact Hp.sub h (.cons _ (.cons _ (.cons _ (.cons _ (.cons _ (.cons _ (.refl _))))))) | exact Hp.sub h (.cons_cons _ (.cons_cons _ (List.nil_sublist _))) | exact Hp.sub h (.cons _ (.cons_cons _ (.cons_cons _ (List.nil_sublist _))))) rfl rfl (v_loadcE (xs := bytesV bs) (c := (bytesV bs).toArray) rfl (by rw [hbl]; rfl) (fun w' hw' => (hw'.item (rdI x bs) (by simp)).1.1) rfl) ?_
    refine d_opg 8 ⟨by kernel_rfl, by decide⟩ rfl rfl (o_mapupN (h := i) (v := pgV bs) rfl rfl rfl rfl rfl rfl (okI (by omega))) (fun _ _ h => goH h) fun _ => ?_
    refine d_end (by kernel_rfl) ?_
    refine goA ?_
    rw [← toP_ins]
    refine x_imp (m' := [rdI x bs, pgI { s with K := insG s.K i bs } d, dkI d]) (fun w' hw' => ?_) (x_ct2 x rfl rfl rfl rfl trivial (.refl _) (rpd_stable _ _ _ _))
    exact pg_close1 (s := { s with K := insG s.K i bs }) (m := [dkI d]) (hw'.pick [5, 1, 2, 0, 3, 4, 6] rfl rfl)
end Go.Proofs.YtplhamichcnmmaaGreatDoor
