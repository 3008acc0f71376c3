/- Marks and deferred calls at a function's end. Own work; no condition. -/
/- tree: leaf, there, ends (no panic); Get. Own work; no condition. -/
import Derived.Test.YtkkfifhaobjicaaGreatDoorHb25
import Derived.Test.YtkkfifhaobjicaaGreatDoorHb35
import Derived.Test.YtkkfifhaobjicaaGreatDoorHb42
namespace Go.Eng
open Go.RowKit
section
variable {P : Program} {l : zat} {w0 : World} {F : Nat → Prop} {m : List Item} {fn : Func} {R : Ending → World → Prop}
theorem qa6 {f : FuncId} {c : Code} {args : Array Value} {u : FrameMode} {w : World} {R : Ending → FrameMode → World → Prop} (hf : P.funcs[f]? = some fn) (hb : fn.body = some c)
  (h : ∀ (c₀ : Frame) (cs : List Frame), c₀.mode = u → c.wpS P (bodyPostS P fn c₀ cs R) { tmps := args ++ Array.replicate (fn.ntmps - args.size) undef, defers := [] } (c₀ :: cs) w) : CallsDIn (fw none) 0 P f args u w R := by
 refine ⟨trivial, fun c₀ cs hu _ => ?_⟩
 let b : Frame := { (default : Frame) with fn := f, kind := .deferred }
 have hi : Frame.enter P f args .deferred = b.at { tmps := args ++ Array.replicate (fn.ntmps - args.size) undef, defers := [] } [.code c] := by simp [Frame.enter, Frame.at, hf, hb, b]
 obtain ⟨e, a', cs', w', hq, harr⟩ := h c₀ cs hu b [] rfl rfl
 rw [← hi] at harr
 match e, hq, harr with
 | .normal, hq, harr =>
  obtain ⟨hd, u', rfl, v, hr, hR⟩ := hq
  exact ⟨.returned v, u', w', _, hR, comesIn_wide.2 (Steps.trans harr (.one step_end)), rfl, rfl, rfl, hd, fn, hf, hr⟩
 | .ret, hq, harr =>
  obtain ⟨hd, u', rfl, v, hr, hR⟩ := hq
  obtain ⟨todo, hs⟩ := harr
  exact ⟨.returned v, u', w', _, hR, comesIn_wide.2 hs, rfl, rfl, rfl, hd, fn, hf, hr⟩
 | .panic chain, hq, harr =>
  obtain ⟨hd, u', rfl, hR⟩ := hq
  obtain ⟨todo, hs⟩ := harr
  exact ⟨.panicked chain, u', w', _, hR, comesIn_wide.2 hs, rfl, rfl, rfl, hd, fn, hf⟩
 | .exit _, hq, _ => exact hq.elim
 | .goto _, hq, _ => exact hq.elim
 | .outgrown, hq, harr =>
  obtain ⟨u', hR⟩ := hq
  exact ⟨.outgrown, u', w', b, hR, comesIn_wide.2 (harr.resolve_left (by simp [b])), rfl, rfl, trivial⟩
theorem qdk {f : FuncId} {args : Array Value} {u : FrameMode} {w : World} {R : Ending → FrameMode → World → Prop} (h : CallsDIn (fw none) 0 P f args u w R) : CallsD P f args u w R :=
 fun c cs hu => let ⟨e, u', w', fr, r, s, k, _, g⟩ := h.2 c cs hu (room_wide _); ⟨e, u', w', fr, r, comesIn_wide.1 s, k, g⟩
theorem zt4 {n D : Nat} {ds : List Deferred} (h : HX (zoj P fn R) .ret ⟨n, ds, none⟩ l (Hp w0 F m)) : HX (zoj P fn R) .ret ⟨n, zej D :: ds, none⟩ l (Hp w0 F (pt D (.deferred (some [])) :: m)) := by
 unfold HX at *
 intro a w st hw
 show LeavesInM (fw none) 0 P fn a.tmps R a.defers .returning w
 rw [st.defers]
 refine ⟨by simp, .inl ⟨D, _, rfl, run_takeDeferred (hw.get (b := D) (o := .deferred (some [])) (by simp)), ?_⟩⟩
 exact h { a with defers := ds } _ ⟨st.size, rfl, st.slot⟩ ((hw.put _).sub (List.sublist_cons_self _ _))
theorem zl7 {n : Nat} {ds : List Deferred} {f : FuncId} {vs : List Value} (hb : zb9 P f = true) (hd : ∀ w, Hp w0 F m w → CallsDIn (fw none) 0 P f vs.toArray .returning w fun e u' w' => u' = .returning ∧ (∃ v, e = .returned v) ∧ Fr none' w w')
  (h : HX (zoj P fn R) .ret ⟨n, ds, none⟩ l (Hp w0 F m)) : HX (zoj P fn R) .ret ⟨n, { target := .fn (.func f) #[], args := vs.toArray } :: ds, none⟩ l (Hp w0 F m) := by
 unfold HX at *
 intro a w st hw
 show LeavesInM (fw none) 0 P fn a.tmps R a.defers .returning w
 rw [st.defers]
 refine ⟨by simp, .inr ⟨zjw _, _, _, f, vs.toArray, rfl, by simp [invoke, zdo hb], fun _ _ => trivial, (hd w hw).mono ?_⟩⟩
 rintro e u' w' ⟨rfl, ⟨v, rfl⟩, hf⟩
 exact h { a with defers := ds } w' ⟨st.size, rfl, st.slot⟩ (hw.keep hf)
end
end Go.Eng
namespace Go.Proofs.YtkkfifhaobjicaaGreatDoor
open Go.RowKit Go.Eng Go.Eng.Bm Go.Eng.Tr
set_option maxRecDepth 100000
set_option maxHeartbeats 40000000
theorem qbf {s : Sh} {N : Nat} {g : Sg} {key : K} {d : Nat} {at_ : Int} {n : Nd} (hl : zkd s N g key (d + 1) at_ = .ok n) : ∃ n1, zen s N g at_ = .ok n1 ∧ ((n1.leaf = true ∧ n = n1) ∨ (n1.leaf = false ∧ zkd s N g key d (n1.kids.getD (dn n1.keys key) 0 : Nat) = .ok n)) := by
 rw [zkd] at hl
 obtain ⟨n1, h1, h2⟩ := zbt hl
 refine ⟨n1, h1, ?_⟩
 cases hlf : n1.leaf with
 | true =>
  rw [hlf, if_pos rfl] at h2
  cases h2
  exact .inl ⟨rfl, rfl⟩
 | false =>
  rw [hlf, if_neg Bool.false_ne_true] at h2
  exact .inr ⟨rfl, h2⟩
theorem ztn {c : Tc} {g : Sg} {s : Pg} (h : Tok c g s) (root : Int) (key : K) {n : Nd} (hl : zkd c.sh c.N g key 16 root = .ok n) (w : World) (hw : ∀ it ∈ [tmI c root s], za2 it w) :
  Ct Tryz.prog 37 #[.pointer (some ⟨c.t, 0, none⟩), kV key] w (zap [tmI c root s]) (fun x : Pg × Po => .agg (ndO n x.2)) (fun x => Tok c g x.1 ∧ n.leaf = true ∧ zfs c.sh n) (fun x => tmI c root x.1 :: ndI n x.2) := by
 refine zbd [_, _] _ Tryz.func37 rfl rfl hw (.cons (fun _ h => nomatch h) .nil) ?_
 simp only [zaa, Nat.reduceAdd]
 refine goA ?_
 refine zan rfl rfl fun b4 hb4 => ?_
 refine goA ?_
 refine l_w rfl (zdv rfl mm) ?_
 refine goA ?_
 refine zct (α := Nat × Int × Pg) (fun y => [(0, .pointer (some ⟨c.t, 0, none⟩)), (1, kV key), (4, .pointer (some ⟨b4, 0, none⟩)), (5, .int .i64 y.2.1), (11, .int .i64 (y.1 : Nat))]) (fun y => y.1 ≤ 16 ∧ Tok c g y.2.2 ∧ zkd c.sh c.N g key (16 - y.1) y.2.1 = .ok n) (fun y => [tmI c root y.2.2, pt b4 (.cells #[.bool false, .slice none 0 0, .slice none 0 0, .slice none 0 0] 101 (0, 0))]) (fun y => 16 - y.1) (0, root, s) ⟨rfl, rfl, rfl, rfl, rfl, trivial⟩ ⟨Nat.zero_le _, h, hl⟩ (fun w' hw' => hw'.pick [1, 0] rfl rfl) fun ⟨k, at_, s1⟩ ⟨hk, h1, hl1⟩ => ?_
 simp only at hk h1 hl1 ⊢
 obtain ⟨m, hm⟩ : ∃ m, 16 - k = m + 1 := by
  refine ⟨15 - k, ?_⟩
  rcases Nat.lt_or_ge k 16 with h | h
  ·omega
  ·rw [show 16 - k = 0 by omega, zkd] at hl1; cases hl1
 rw [hm] at hl1
 obtain ⟨n1, hl2, hcase⟩ := qbf hl1
 obtain ⟨hmay, i0, hi0, -, -⟩ := zfk hl2
 obtain ⟨hnb, hb1, hb2, hb3⟩ := ziz h.sh hmay
 refine goA ?_
 refine zae rfl (zba (pre := [tmI c root s1]) rfl (by kernel_rfl) rfl (zah c root s1) (fun w1 hw1 hh1 ha1 => zj4 h1 root at_ hl2 w1 hh1)) fun ⟨⟨s2, o⟩, h2⟩ => ?_
 have h2 : Tok c g s2 := h2
 dsimp only
 unfold ndI
 simp only [List.cons_append, List.nil_append]
 refine goA ?_
 refine zan rfl rfl fun b6 hb6 => ?_
 refine za0 rfl (zai (cs' := ndO n1 o) rfl rfl rfl rfl (zcx n1 o) rfl) fun _ => ?_
 rcases hcase with ⟨hlf, rfl⟩ | ⟨hlf, hl3⟩
 ·refine goA ?_
  rw [hlf]
  refine goA ?_
  refine za0 rfl (zak (zg1 _ _ _ _ _ _ _) (zai (cs' := ndO n o) rfl rfl rfl rfl (zcx n o) rfl)) fun _ => ?_
  refine goA ?_
  refine zeh [2, 3, 4, 5, 0] rfl rfl ?_
  exact zbw (s2, o) rfl ⟨_, rfl, zas rfl mm⟩ rfl ⟨h2, rfl, hmay⟩ (.cons_cons _ (.cons_cons _ (.cons_cons _ (.cons_cons _ (List.nil_sublist _))))) (zcj _ _ _ _ _)
 ·obtain ⟨hkr, hvs, hkl1, hk1, -⟩ := hmay.inner hlf
  have hdn := znq n1.keys key
  refine zea (fun w hw => zbq (hw.item (own 3 1 o.d n1.kids.length (n1.kids.map iV)) mm).1 (by omega)) fun ⟨db, dc, e⟩ => ?_
  obtain ⟨ok, ov, od⟩ := o
  simp only at e ⊢
  subst e
  obtain ⟨kq, hkq⟩ : ∃ x, n1.kids[dn n1.keys key]? = some x := ⟨_, List.getElem?_eq_getElem (by omega)⟩
  rw [show n1.kids.getD (dn n1.keys key) 0 = kq by rw [List.getD_eq_getElem?_getD, hkq]; rfl] at hl3
  refine goA ?_
  rw [hlf]
  refine goA ?_
  refine zaq [0, 1, 2, 3, 4, 5] 8 rfl rfl (by kernel_rfl) ?_
  refine goE ?_
  refine zau 4 ⟨by kernel_rfl, by decide⟩ rfl rfl (zag rfl (by kernel_rfl) rfl (fun w1 hw1 => znt (o := ⟨ok, ov, some (db, dc)⟩) hmay hb1 key w1 (zc7 hw1 mm mm mm))) (fun _ _ h => h) fun _ => ?_
  (repeat first | refine dAv [6] rfl rfl rfl ?_ | refine dno [6] rfl rfl rfl ?_ | refine dT [6] rfl rfl rfl rfl ?_ | refine dF [6] rfl rfl rfl rfl ?_)
  refine d_v [] rfl rfl (by kernel_rfl) (fun _ h => goH h) rfl rfl (zaz (v := .int .i64 (kq : Int)) rfl rfl (fun w' hw' => zbo (hw'.item (own 3 1 (some (db, dc)) n1.kids.length (n1.kids.map iV)) mm).1 _ _ (by simp only [Nat.zero_add]; rw [List.getElem?_map, hkq]; rfl))) ?_
  refine goE ?_
  refine zbs (by kernel_rfl) ?_
  refine goA ?_
  exact zay (k + 1, (kq : Int), s2) ⟨rfl, rfl, rfl, rfl, rfl, trivial⟩ ⟨by simp only; omega, h2, by simp only; rw [show 16 - (k + 1) = m by omega]; exact hl3⟩ (fun w' hw' => hw'.pick [1, 5] rfl rfl) (by simp only; omega)
theorem zja {c : Tc} {g : Sg} {s : Pg} (ht : Tok c g s) (root : Int) (w : World) (h : za2 (tmI c root s) w) : Pu Tryz.prog 35 #[.pointer (some ⟨c.t, 0, none⟩)] w (.tuple #[]) := by
 refine zbl [_] Tryz.func35 rfl rfl ?_
 have hc := fun (w' : World) (hw' : Hp w none' [] w') => za7 ((h.keep hw').1.1 _ (.head _)).1
 simp only [zaa]
 refine goA ?_
 refine l_w rfl (zaz (v := .pointer (some ⟨c.pb, 0, none⟩)) rfl rfl (fun w' hw' => by have := hc w' hw' 0 _ rfl; rwa [Nat.zero_add] at this)) ?_
 refine goA ?_
 refine zae rfl (zag rfl (by kernel_rfl) rfl (fun w1 hw1 => zef _ w1)) fun _ => ?_
 refine goA ?_
 refine l_w rfl (qkj h rfl) ?_
 refine goA ?_
 refine zae rfl (zag rfl (by kernel_rfl) rfl (fun w1 hw1 => zhb ht.sh w1)) fun _ => ?_
 refine goA ?_
 refine zae rfl (zag rfl (by kernel_rfl) rfl (fun w1 hw1 => zef _ w1)) fun _ => ?_
 refine goA ?_
 exact qqi rfl
theorem zdt (e : Addr) (w : World) : CallsDIn (fw none) 0 Tryz.prog 34 #[.pointer (some e)] .returning w fun e u' w' => u' = .returning ∧ (∃ v, e = .returned v) ∧ Fr none' w w' := by
 refine qa6 Tryz.func34 rfl fun c₀ cs hu => ?_
 apply wpS_seq
 apply wpS_region
 simp [wpOpsS, go_sem, recoverD, hu, Exit.thenS]
 apply wpS_seq
 apply wpS_region
 have hq : ∀ w, (eqGuard .neq 20 (.tmp 6) (.const .nilIface) .nilIface .nilIface).run Tryz.prog w = .ok () w := fun _ => rfl
 have hq2 : ∀ w, (binOp .neq 20 .nilIface .nilIface).run Tryz.prog w = .ok (.bool false) w := fun _ => rfl
 simp [wpOpsS, go_sem, hu, Exit.thenS, Act.eval, hq, hq2]
 refine wpS_cond (t := false) (by simp [Act.eval, Array.replicate]) ?_
 simp only [Bool.false_eq_true, if_false]
 refine wpS_of_wp (wp_skip ?_)
 cases c₀
 simp_all [bodyPostS, results]
 exact .refl _ _
theorem zb2 (e : Addr) (w : World) : CallsD Tryz.prog 34 #[.pointer (some e)] .returning w fun e u' w' => u' = .returning ∧ (∃ v, e = .returned v) ∧ Fr none' w w' := qdk (zdt e w)
theorem qan (a : Int) (k : Int) (w : World) : Pu Tryz.prog 36 #[.bool (a == a), .int .i64 k] w (.tuple #[]) := by
 rw [beq_self_eq_true]
 exact zef k w
theorem zmk {l : zat} {w0 : World} {F : Nat → Prop} {m : List Eng.Item} {ty : TypeId} {x : Operand} {c : Tc} {root : Int} {s : Pg} {j : Nat} {v : Value} (hx : evO l x = some (.pointer (some ⟨c.t, j, none⟩))) (hm : tmI c root s ∈ m) (hv : ([.pointer (some ⟨c.pb, 0, none⟩), .int .i64 (c.sh.kw : Int), .int .i64 (c.sh.vw : Int), .int .i64 root] : List Value)[j]? = some v) : OV Tryz.prog (.load 3 x) ty l (Hp w0 F m) v :=
 zaz hx rfl (fun _ hw' => by have := qcz hw' hm j _ hv; rwa [Nat.zero_add] at this)
theorem zww {s : Sh} {N : Nat} {g : Sg} {key : K} {root : Int} {r : Option K} (hl : zyu s N g key root = .ok r) : (root = 0 ∧ r = none) ∨ (root ≠ 0 ∧ ∃ n, zkd s N g key 16 root = .ok n ∧ r = if fd n.keys key then n.vals[lb n.keys key]? else none) := by
 unfold zyu at hl
 by_cases h0 : root = 0
 ·rw [if_pos h0] at hl; cases hl; exact .inl ⟨h0, rfl⟩
 ·rw [if_neg h0] at hl
  obtain ⟨n, h1, h2⟩ := zbt hl
  cases h2
  exact .inr ⟨h0, n, h1, rfl⟩
theorem qm2 {c : Tc} {g : Sg} {s : Pg} (h : Tok c g s) (root : Int) (key : K) (hk : key.length = c.sh.kw) {r : Option K} (hl : zyu c.sh c.N g key root = .ok r) (w : World) (hw : ∀ it ∈ [tmI c root s], za2 it w) :
  Ct Tryz.prog 13 #[.pointer (some ⟨c.t, 0, none⟩), kV key] w (zap [tmI c root s]) (fun _ : Pg => .tuple #[kV (r.getD []), .bool r.isSome, .int .i64 0]) (fun s' => Tok c g s') (fun s' => [tmI c root s']) := by
 refine zz3 [_, _] _ Tryz.func13 rfl rfl hw (.cons (fun _ h => nomatch h) .nil) ?_
 simp only [zaa, Nat.reduceAdd]
 refine goA ?_
 refine zeb rfl rfl rfl fun b6 hb6 => ?_
 refine goA ?_
 refine zlt (xs := [.tmp 6]) rfl rfl ?_
 refine goA ?_
 refine zae rfl (zag rfl (by kernel_rfl) rfl (fun w1 hw1 => zja h root w1 (za2.of (hw1.item (tmI c root s) mm) (zad _)))) fun _ => ?_
 refine goA ?_
 refine l_w rfl (zmk rfl mm rfl) ?_
 refine goA ?_
 rw [zlv, hk]
 refine zae rfl (zag rfl (by kernel_rfl) rfl (fun w1 hw1 => qan _ _ w1)) fun _ => ?_
 refine goA ?_
 refine l_w rfl (zdv rfl mm) ?_
 refine goA ?_
 rcases zww hl with ⟨rfl, rfl⟩ | ⟨h0, n, hlf, rfl⟩
 ·refine goA ?_
  refine za0 rfl (zaj rfl rfl rfl rfl rfl rfl (by simp)) fun _ => ?_
  refine goA ?_
  refine zg0 (by kernel_rfl) (fun w hw => zb2 _ w) ?_
  exact zvr s rfl rfl rfl ⟨_, rfl, za8 rfl (.head _)⟩ rfl h (.cons _ (.refl _)) (zah _ _ _)
 ·refine goA ?_
  refine za1 [1, 0] rfl rfl ?_
  refine zae rfl (zba (pre := [tmI c root s]) rfl (by kernel_rfl) rfl (zah c root s) (fun w1 hw1 hh1 ha1 => ztn h root key hlf w1 hh1)) fun ⟨⟨s1, o⟩, h1, hleaf, hmay⟩ => ?_
  have h1 : Tok c g s1 := h1
  obtain ⟨hnb, hb1, hb2, hb3⟩ := ziz h.sh hmay
  obtain ⟨-, hkv, -, -⟩ := hmay.leaf hleaf
  dsimp only
  unfold ndI
  simp only [List.cons_append, List.nil_append]
  refine goA ?_
  refine zan rfl rfl fun b7 hb7 => ?_
  refine za0 rfl (zai (cs' := ndO n o) rfl rfl rfl rfl (zcx n o) rfl) fun _ => ?_
  refine goA ?_
  refine zae rfl (zag rfl (by kernel_rfl) rfl (fun w1 hw1 => zlh hmay hb1 key w1 (zc7 hw1 mm mm mm))) fun _ => ?_
  refine goA ?_
  cases hf : fd n.keys key with
  | false =>
   refine goA ?_
   refine za0 rfl (zak (zg1 _ _ _ _ _ _ _) (zaj rfl rfl rfl rfl rfl rfl (by simp))) fun _ => ?_
   refine goA ?_
   refine zg0 (by kernel_rfl) (fun w hw => zb2 _ w) ?_
   exact zvr s1 rfl rfl rfl ⟨_, rfl, za8 rfl mm⟩ rfl h1 (.cons _ (.cons _ (.cons_cons _ (List.nil_sublist _)))) (zah _ _ _)
  | true =>
   have hlt : lb n.keys key < n.vals.length := by rw [← hkv]; exact (List.getElem?_eq_some_iff.1 (ziq.1 hf)).1
   obtain ⟨v, hv⟩ : ∃ x, n.vals[lb n.keys key]? = some x := ⟨_, List.getElem?_eq_getElem hlt⟩
   rw [if_pos rfl, hv]
   refine zf2 (fun w hw => zbq (hw.item (own 9 1 o.v n.vals.length (n.vals.map kV)) mm).1 (by omega)) fun ⟨vb, vc, e⟩ => ?_
   obtain ⟨ok, ov, od⟩ := o
   simp only at e ⊢
   subst e
   refine goA ?_
   refine l_w rfl (zaz (v := kV v) rfl rfl (fun w' hw' => zbo (hw'.item (own 9 1 (some (vb, vc)) n.vals.length (n.vals.map kV)) mm).1 _ _ (by simp only [Nat.zero_add]; rw [List.getElem?_map, hv]; rfl))) ?_
   refine goA ?_
   refine za0 rfl (zak (zg1 _ _ _ _ _ _ _) (zaj rfl rfl rfl rfl rfl rfl (by simp))) fun _ => ?_
   refine goA ?_
   refine zg0 (by kernel_rfl) (fun w hw => zb2 _ w) ?_
   exact zvr s1 rfl rfl rfl ⟨_, rfl, za8 rfl mm⟩ rfl h1 (.cons _ (.cons _ (.cons_cons _ (List.nil_sublist _)))) (zah _ _ _)
end Go.Proofs.YtkkfifhaobjicaaGreatDoor
