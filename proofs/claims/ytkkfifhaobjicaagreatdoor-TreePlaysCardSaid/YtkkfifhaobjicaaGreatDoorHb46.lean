/- tree: all. Own work; no condition. -/
/- tree: From, Each. Own work; no condition. -/
import Derived.Test.YtkkfifhaobjicaaGreatDoorHb45
import Derived.Test.YtkkfifhaobjicaaGreatDoorHb26
namespace Go.Proofs.YtkkfifhaobjicaaGreatDoor
open Go.RowKit Go.Eng Go.Eng.Bm Go.Eng.Tr
set_option maxRecDepth 100000
set_option maxHeartbeats 40000000
def qnp (s : Sh) (N : Nat) (g : Sg) (f : K) : Nat → Nat → E → Prop
 | 0, _, _ => False
 | d + 1, at_, xs => ∃ n, zen s N g (at_ : Nat) = .ok n ∧ ((n.leaf = true ∧ xs = (n.keys.zip n.vals).drop (lb n.keys f)) ∨
  (n.leaf = false ∧ ∃ L : List (Nat × E), L.map (·.1) = n.kids.drop (dn n.keys f) ∧ (∀ x ∈ L, qnp s N g f d x.1 x.2) ∧ xs = L.flatMap (·.2)))
theorem qjq {α β : Type} : ∀ l : List (α × β), (l.map (·.1)).zip (l.map (·.2)) = l
 | [] => rfl
 | (a, b) :: l => by rw [List.map_cons, List.map_cons, List.zip_cons_cons, qjq l]
theorem qjx {s : Sh} (hs : 1 ≤ s.kw) {N : Nat} (hN : N ≤ 1024) {g : Sg} {f : K} : ∀ {h : Nat} (t : T h), Ord t → Wd s t → Below s t → sz t ≤ mx s h → (1 ≤ h → 2 ≤ sz t) → (∀ h', 2 ≤ mx s (h' + 1) / 2) → Rep g.W t → (∀ x ∈ pgs t, 1 ≤ x ∧ x < N) → ∀ d, h < d → qnp s N g f d (pg t) (qko t f)
 | _, _, _, _, _, _, _, _, _, _, 0, hd => by omega
 | 0, (p, es), hO, hW, hB, hm, h2, hx, hr, hp, d + 1, _ => by
  refine ⟨_, zec hs hr (zce _ hO hW hm h2 fun x hx => ⟨(hp x hx).1, by have := (hp x hx).2; omega⟩) (hp p (.head _)).1 (hp p (.head _)).2, .inl ⟨rfl, ?_⟩⟩
  show es.drop (lb (keys es) f) = ((es.map (·.1)).zip (es.map (·.2))).drop _
  rw [qjq]; rfl
 | h + 1, (p, ks, kids), hO, hW, hB, hm, h2, hx, hr, hp, d + 1, hd => by
  refine ⟨_, zec hs hr (zce _ hO hW hm h2 fun x hx => ⟨(hp x hx).1, by have := (hp x hx).2; omega⟩) (hp p (.head _)).1 (hp p (.head _)).2, .inr ⟨rfl, (kids.drop (dn ks f)).map fun x => (pg x, qko x f), ?_, ?_, ?_⟩⟩
  ·show _ = (kids.map pg).drop (dn ks f)
   rw [List.map_map, List.map_drop]; rfl
  ·intro x hx1
   obtain ⟨y, hy, rfl⟩ := List.mem_map.1 hx1
   have hy := List.mem_of_mem_drop hy
   have hBy := hB y hy
   exact qjx hs hN y (hO.2.2 y hy) (hW.2 y hy) hBy.2.2 hBy.2.1 (fun h1 => by
    obtain ⟨h', rfl⟩ : ∃ h', h = h' + 1 := ⟨h - 1, by omega⟩
    exact Nat.le_trans (hx h') hBy.1) hx (hr.2 y hy) (fun z hz => hp z (.tail _ (List.mem_flatMap.2 ⟨y, hy, hz⟩))) d (by omega)
  ·show (kids.drop (dn ks f)).flatMap (fun x => qko x f) = _
   rw [List.flatMap_map]
def qc6 (x : Nat × Nat × Nat × Nat) (c : Tc) (at_ d : Nat) (f : K) : List Eng.Item := [pt x.1 (.cells #[.int .i64 (d : Nat)] 3 (0, 0)), pt x.2.1 (.cells #[.pointer (some ⟨c.t, 0, none⟩)] 36 (0, 0)), pt x.2.2.1 (.cells #[.int .i64 (at_ : Nat)] 3 (0, 0)), pt x.2.2.2 (.cells #[kV f] 9 (0, 0))]
def qpw (x : Nat × Nat × Nat × Nat) : List Value := [.pointer (some ⟨x.1, 0, none⟩), .pointer (some ⟨x.2.1, 0, none⟩), .pointer (some ⟨x.2.2.1, 0, none⟩), .pointer (some ⟨x.2.2.2, 0, none⟩)]
theorem zh2 (x : Nat × Nat × Nat × Nat) (c : Tc) (at_ d : Nat) (f : K) : ∀ it ∈ qc6 x c at_ d f, it.Stable none' := by simp [qc6, zac]
def qq0 (x : Nat × Nat × Nat × Nat) : Value := .func (.func 97) #[] (qpw x).toArray
theorem zmn (c : Tc) (at_ d : Nat) (f : K) (w : World) : Ct Tryz.prog 53 #[.pointer (some ⟨c.t, 0, none⟩), .int .i64 (at_ : Nat), .int .i64 (d : Nat), kV f] w none' qq0 (fun _ => True) (fun x => qc6 x c at_ d f) := by
 refine zfo [_, _, _, _] Tryz.func53 rfl rfl ?_
 simp only [zaa, Nat.reduceAdd]
 refine goA ?_
 refine zd2 rfl rfl rfl fun b4 _ => ?_
 refine zd2 rfl rfl rfl fun b5 _ => ?_
 refine zd2 rfl rfl rfl fun b6 _ => ?_
 refine zd2 rfl rfl rfl fun b7 _ => ?_
 refine goA ?_
 refine l_w rfl (znm rfl) ?_
 refine goA ?_
 refine zeh [1, 3, 2, 0] rfl rfl ?_
 exact zbw (b6, b4, b5, b7) rfl rfl rfl trivial (.refl _) (zh2 _ c at_ d f)
theorem qhl {α : Type} {l k : List α} {x : α} (h : (k ++ [x]) <+: l) (m r : List α) : (m ++ k ++ [x]) <+: (m ++ l ++ r) := by
 obtain ⟨t, ht⟩ := h
 exact ⟨t ++ r, by simp [← ht]⟩
theorem zkx {α : Type} {l : List α} {i : Nat} {x : α} (h : l[i]? = some x) : l.take i ++ [x] = l.take (i + 1) := by rw [List.take_add_one, h]; rfl
theorem qo9 {σ : Type} {Y : σ → Eng.Item} (h : ∀ s, (Y s).Stable none') (c : Tc) (root : Int) (s' : σ) {z : Pg} : ∀ it ∈ Y s' :: [tmI c root z], it.Stable none' := by
 intro it hm
 rcases hm with _ | ⟨_, hm⟩
 ·exact h _
 ·exact zah c root z it hm
theorem zwz {α : Type} (A : List α) (y p : α) (r : List α) : (A ++ y :: p :: r).Perm (y :: p :: (A ++ r)) := List.perm_middle.trans (.cons _ List.perm_middle)
theorem zy2 (c : Tc) (root : Int) (g : Sg) (f : K) : ∀ (d at_ : Nat) (xs : E) (s : Pg) (x : Nat × Nat × Nat × Nat), d ≤ 16 → Tok c g s → qnp c.sh c.N g f d at_ xs →
  ql3 Tryz.prog 97 (qpw x) (qc6 x c at_ d f ++ [tmI c root s]) (fun s' : Pg => [tmI c root s']) (fun s' => Tok c g s') (fun k y => (k ++ [y]) <+: xs) (fun k => k = xs) (fun y => [kV y.1, kV y.2]) := by
 intro d
 induction d with
 | zero => exact fun at_ xs s x _ _ h => h.elim
 | succ d ih =>
  rintro at_ xs s ⟨b1, b2, b3, b4⟩ hd h ⟨n, h1, hcase⟩
  obtain ⟨hmay, -⟩ := zfk h1
  obtain ⟨hnb, hb1, hb2, hb3⟩ := ziz h.sh hmay
  refine qg6 _ _ _ _ _ _ _ Tryz.func97 rfl rfl ?_
  intro σ ly Y I J s0 w hst h0 hy
  simp only [qc6, List.cons_append, List.nil_append, qpw]
  refine goA ?_
  refine zd2 rfl rfl rfl fun b5 _ => ?_
  refine goA ?_
  refine zae rfl (zag rfl (by kernel_rfl) rfl (fun w1 hw1 => zlq (by omega) _ w1)) fun _ => ?_
  refine goA ?_
  refine za1 [6, 0, 1, 2, 3, 4, 5] rfl rfl ?_
  refine zae rfl (zba (pre := [tmI c root s]) rfl (by kernel_rfl) rfl (zah c root s) (fun w1 hw1 hh1 ha1 => zj4 h root at_ h1 w1 hh1)) fun ⟨⟨s1, o⟩, hs1⟩ => ?_
  have hs1 : Tok c g s1 := hs1
  dsimp only
  unfold ndI
  simp only [List.cons_append, List.nil_append]
  refine goA ?_
  refine zan rfl rfl fun b6 hb6 => ?_
  refine za0 rfl (zai (cs' := ndO n o) rfl rfl rfl rfl (zcx n o) rfl) fun _ => ?_
  rcases hcase with ⟨hlf, rfl⟩ | ⟨hlf, L, hL1, hL2, rfl⟩
  ·obtain ⟨-, hkv, -, -⟩ := hmay.leaf hlf
   refine goA ?_
   rw [hlf]
   refine goA ?_
   refine zae rfl (zag rfl (by kernel_rfl) rfl (fun w1 hw1 => zlh hmay hb1 f w1 (zc7 hw1 mm mm mm))) fun _ => ?_
   refine goA ?_
   refine zf2 (fun w hw => And.intro (zav (hw.item (own 9 1 o.k n.keys.length (n.keys.map kV)) mm).1).1 (And.intro (zav (hw.item (own 9 1 o.v n.vals.length (n.vals.map kV)) mm).1).1 (zav (hw.item (own 3 1 o.d n.kids.length (n.kids.map iV)) mm).1).1)) fun ⟨f1, f2, f3⟩ => ?_
   obtain ⟨zs, hzs⟩ : ∃ zs, (n.keys.zip n.vals).drop (lb n.keys f) = zs := ⟨_, rfl⟩
   rw [hzs]
   have hlb := zvj n.keys f
   have hzl : zs.length = n.keys.length - lb n.keys f := by rw [← hzs, List.length_drop, List.length_zip, ← hkv, Nat.min_self]
   refine zct (α := Nat × σ) (fun y => [(5, .pointer (some ⟨b5, 0, none⟩)), (6, .pointer (some ⟨b6, 0, none⟩)), (7, .int .i64 ((lb n.keys f + y.1 : Nat) : Int))]) (fun y => y.1 ≤ zs.length ∧ I (zs.take y.1) y.2) (fun y => [Y y.2, pt b6 (.cells #[.bool true, .slice (slA o.k) n.keys.length (slC o.k), .slice (slA o.v) n.vals.length (slC o.v), .slice (slA o.d) n.kids.length (slC o.d)] 101 (0, 0)), tmI c root s1, own 9 1 o.k n.keys.length (n.keys.map kV), own 9 1 o.v n.vals.length (n.vals.map kV), pt b5 (.cells #[.func (.yield ly) #[] #[]] 78 (0, 0))]) (fun y => zs.length - y.1) (0, s0) ⟨rfl, rfl, rfl, trivial⟩ ⟨Nat.zero_le _, h0⟩ (fun w' hw' => by unfold ndO at hw'; rw [f1, f2, f3, hlf] at hw'; exact hw'.pick [6, 0, 1, 2, 3, 5] rfl rfl) fun ⟨i, st⟩ ⟨hi, hI⟩ => ?_
   simp only at hi hI ⊢
   by_cases hlt : lb n.keys f + i < n.keys.length
   ·refine zf2 (fun w hw => And.intro (zbq (hw.item (own 9 1 o.k n.keys.length (n.keys.map kV)) mm).1 (by omega)) (zbq (hw.item (own 9 1 o.v n.vals.length (n.vals.map kV)) mm).1 (by omega))) fun ⟨⟨kb, kc, e⟩, ⟨vb, vc, e'⟩⟩ => ?_
    obtain ⟨ok, ov', od⟩ := o
    simp only at e e' ⊢
    subst e
    subst e'
    simp only [zga, zf3]
    obtain ⟨y, hy1⟩ : ∃ y, zs[i]? = some y := ⟨_, List.getElem?_eq_getElem (by omega)⟩
    have hkq : n.keys[lb n.keys f + i]? = some y.1 ∧ n.vals[lb n.keys f + i]? = some y.2 := by
     rw [← hzs, List.getElem?_drop, List.getElem?_zip_eq_some] at hy1
     exact hy1
    refine goA ?_
    refine qlx [1, 2, 3, 4, 5] rfl rfl (by kernel_rfl) ?_
    refine zns (i := 0) rfl (by kernel_rfl) (fun w hw => hw.pick [1, 2, 3, 4, 5] rfl rfl) rfl (zke rfl rfl mm rfl) ?_
    refine zns (i := 1) rfl (by kernel_rfl) (fun w hw => hw.pick [1, 2, 3, 4, 5] rfl rfl) rfl (zdi rfl rfl) ?_
    refine zns (i := 2) rfl (by kernel_rfl) (fun w hw => hw.pick [1, 2, 3, 4, 5] rfl rfl) rfl (zke rfl rfl (.head _) rfl) ?_
    refine zns (i := 3) rfl (by kernel_rfl) (fun w hw => hw.pick [1, 2, 3, 4, 5] rfl rfl) rfl (zhd rfl) ?_
    refine zns (i := 4) rfl (by kernel_rfl) (fun w hw => hw.pick [1, 2, 3, 4, 5] rfl rfl) rfl (zmj rfl rfl rfl hlt) ?_
    refine zns (i := 5) rfl (by kernel_rfl) (fun w hw => hw.pick [1, 2, 3, 4, 5] rfl rfl) rfl (ziv (v := kV y.1) rfl rfl (.tail _ (.tail _ (.head _))) (by rw [List.getElem?_map, Nat.zero_add, hkq.1]; rfl)) ?_
    refine zns (i := 6) rfl (by kernel_rfl) (fun w hw => hw.pick [1, 2, 3, 4, 5] rfl rfl) rfl (zdi rfl rfl) ?_
    refine zns (i := 7) rfl (by kernel_rfl) (fun w hw => hw.pick [1, 2, 3, 4, 5] rfl rfl) rfl (zke rfl rfl (.head _) rfl) ?_
    refine zns (i := 8) rfl (by kernel_rfl) (fun w hw => hw.pick [1, 2, 3, 4, 5] rfl rfl) rfl (zhd rfl) ?_
    refine zns (i := 9) rfl (by kernel_rfl) (fun w hw => hw.pick [1, 2, 3, 4, 5] rfl rfl) rfl (zmj rfl rfl rfl (by omega)) ?_
    refine zns (i := 10) rfl (by kernel_rfl) (fun w hw => hw.pick [1, 2, 3, 4, 5] rfl rfl) rfl (ziv (v := kV y.2) rfl rfl (.tail _ (.tail _ (.tail _ (.head _)))) (by rw [List.getElem?_map, Nat.zero_add, hkq.2]; rfl)) ?_
    refine qk1 (i := 11) (by kernel_rfl) rfl rfl rfl rfl (hst st) (hy (zs.take i) y st (by rw [zkx hy1, hzs]; exact List.take_prefix _ _) hI) (fun s' w hw => hw.pick [1, 2, 3, 4, 5] rfl rfl) fun b s' hR => ?_
    refine zns (i := 12) rfl (by kernel_rfl) (fun w hw => hw.pick [1, 2, 3, 4, 5] rfl rfl) rfl (ov fun _ _ _ _ _ => rfl) ?_
    refine qqe (by kernel_rfl) ?_
    rw [zkx hy1] at hR
    rcases hR with ⟨rfl, h8⟩ | ⟨rfl, h8⟩
    ·refine goA ?_
     exact zay (i + 1, s') ⟨rfl, rfl, rfl, trivial⟩ ⟨by simp only; omega, h8⟩ (fun w hw => hw) (by simp only; omega)
    ·refine goA ?_
     refine zi2 ?_
     exact zw3 s' s1 rfl hs1 (.inr h8) (qo9 hst _ _ _) (.cons_cons _ (.cons _ (.cons_cons _ (List.nil_sublist _))))
   ·refine goA ?_
    refine zi2 ?_
    have he : zs.take i = zs := List.take_of_length_le (by omega)
    rw [he] at hI
    exact zw3 st s1 rfl hs1 (.inl ⟨_, rfl, hI⟩) (qo9 hst _ _ _) (.cons_cons _ (.cons _ (.cons_cons _ (List.nil_sublist _))))
  ·obtain ⟨hkr, hvs, hkl1, hk1, -⟩ := hmay.inner hlf
   have hdn := znq n.keys f
   refine zea (fun w hw => And.intro (zbq (hw.item (own 3 1 o.d n.kids.length (n.kids.map iV)) mm).1 (by omega)) (And.intro (zav (hw.item (own 3 1 o.d n.kids.length (n.kids.map iV)) mm).1).2 (And.intro (zav (hw.item (own 9 1 o.k n.keys.length (n.keys.map kV)) mm).1).1 (zav (hw.item (own 9 1 o.v n.vals.length (n.vals.map kV)) mm).1).1))) fun ⟨⟨db, dc, e⟩, hdc, f1, f2⟩ => ?_
   obtain ⟨ok, ov', od⟩ := o
   simp only at e hdc f1 f2 ⊢
   subst e
   have hdc : n.kids.length ≤ dc := hdc
   refine goA ?_
   rw [hlf]
   refine goA ?_
   refine zde [6, 0, 1, 5, 7, 8, 10, 2, 3, 4] rfl rfl ?_
   refine zaq [0, 1, 2, 3, 4, 5, 6, 7, 8, 9] 8 rfl rfl (by kernel_rfl) ?_
   refine goE ?_
   refine zau 4 ⟨by kernel_rfl, by decide⟩ rfl rfl (zag rfl (by kernel_rfl) rfl (fun w1 hw1 => znt (o := ⟨ok, ov', some (db, dc)⟩) hmay hb1 f w1 (zc7 hw1 mm mm mm))) (fun _ _ h => h) fun _ => ?_
   refine d_v [] rfl rfl (by kernel_rfl) (fun _ h => goH h) rfl rfl (qow (i := dn n.keys f) rfl rfl rfl rfl (by omega)) ?_
   refine goE ?_
   refine zbs (by kernel_rfl) ?_
   rw [zca (by omega), Nat.zero_add, Nat.mul_one]
   refine goA ?_
   have hLl : L.length = n.kids.length - dn n.keys f := by have := congrArg List.length hL1; simpa using this
   refine qm8 (α := List Nat × Nat × σ × Pg) (fun y => ⟨Tryz.f97.ntmps, y.1.map zej, none⟩) (fun y => [(1, .pointer (some ⟨b1, 0, none⟩)), (2, .pointer (some ⟨b2, 0, none⟩)), (4, .pointer (some ⟨b4, 0, none⟩)), (5, .pointer (some ⟨b5, 0, none⟩)), (52, .slice (some ⟨db, dn n.keys f, none⟩) (n.kids.length - dn n.keys f) (dc - dn n.keys f)), (53, .int .i64 ((n.kids.length - dn n.keys f : Nat) : Int)), (54, .int .i64 (y.2.1 : Nat))]) (fun y => y.2.1 ≤ L.length ∧ Tok c g y.2.2.2 ∧ I ((L.take y.2.1).flatMap (·.2)) y.2.2.1) (fun y => Y y.2.2.1 :: pt b5 (.cells #[.func (.yield ly) #[] #[]] 78 (0, 0)) :: tmI c root y.2.2.2 :: pt b1 (.cells #[.int .i64 ((d + 1 : Nat) : Int)] 3 (0, 0)) :: pt b2 (.cells #[.pointer (some ⟨c.t, 0, none⟩)] 36 (0, 0)) :: pt b4 (.cells #[kV f] 9 (0, 0)) :: own 3 1 (some (db, dc)) n.kids.length (n.kids.map iV) :: y.1.map zqh) (fun y => L.length - y.2.1) ([], 0, s0, s1) rfl (fun _ => rfl) ⟨rfl, rfl, rfl, rfl, rfl, rfl, rfl, trivial⟩ ⟨Nat.zero_le _, hs1, h0⟩ (fun w' hw' => hw'.pick [0, 3, 2, 4, 5, 6, 9] rfl rfl) fun ⟨ds, j, st, z⟩ ⟨hj, hz, hI⟩ => ?_
   simp only at hj hz hI ⊢
   by_cases hlt : j < n.kids.length - dn n.keys f
   ·obtain ⟨y, hy1⟩ : ∃ y, L[j]? = some y := ⟨_, List.getElem?_eq_getElem (by omega)⟩
    have hkq : n.kids[dn n.keys f + j]? = some y.1 := by rw [← List.getElem?_drop, ← hL1, List.getElem?_map, hy1]; rfl
    have hsp : L.flatMap (·.2) = (L.take j).flatMap (·.2) ++ y.2 ++ (L.drop (j + 1)).flatMap (·.2) := by
     have h2 : (L.take (j + 1)).flatMap (·.2) = (L.take j).flatMap (·.2) ++ y.2 := by rw [← zkx hy1]; simp
     rw [← h2, ← List.flatMap_append, List.take_append_drop]
    refine goA ?_
    refine l_w rfl (ziv (v := .int .i64 (y.1 : Int)) rfl rfl (.tail _ (.tail _ (.tail _ (.tail _ (.tail _ (.tail _ (.head _))))))) (by rw [List.getElem?_map, hkq]; rfl)) ?_
    refine goA ?_
    rw [show d + 1 - 1 = d by omega]
    refine ze5 rfl rfl (by kernel_rfl) rfl (fun w1 hw1 => zmn c y.1 d f w1) fun x hx => ?_
    refine goA ?_
    refine zr1 (m' := [Y st, pt b5 (.cells #[.func (.yield ly) #[] #[]] 78 (0, 0))] ++ ((qc6 x c y.1 d f ++ [tmI c root z]) ++ (pt b1 (.cells #[.int .i64 ((d + 1 : Nat) : Int)] 3 (0, 0)) :: pt b2 (.cells #[.pointer (some ⟨c.t, 0, none⟩)] 36 (0, 0)) :: pt b4 (.cells #[kV f] 9 (0, 0)) :: own 3 1 (some (db, dc)) n.kids.length (n.kids.map iV) :: ds.map zqh))) ((zwz (qc6 x c y.1 d f) _ _ _).trans (by simp only [List.cons_append, List.nil_append, List.append_assoc]; exact .refl _)) ?_
    refine zs4 (fun st => [Y st, pt b5 (.cells #[.func (.yield ly) #[] #[]] 78 (0, 0))]) (fun k st => I ((L.take j).flatMap (·.2) ++ k) st) (fun e st => e = .ret ∧ J st) st rfl rfl (by kernel_rfl) (ih y.1 y.2 z x (by omega) hz (hL2 y (List.mem_of_getElem? hy1))) (fun _ => rfl) (by decide) (fun s => by
     intro it hm
     rcases hm with _ | ⟨_, _ | ⟨_, hm⟩⟩
     ·exact hst s
     ·exact zac _ _ _
     ·cases hm) (fun it hm => by
     rcases List.mem_append.1 hm with hm | hm
     ·exact zh2 _ _ _ _ _ it hm
     ·exact zah _ _ _ it hm) (by rw [List.append_nil]; exact hI) ?_ ?_ ?_
    ·rintro ly2 rc k y1 st1 W hx1 hk
     simp only [zm7, List.zip_cons_cons, List.zip_nil_right]
     refine goA ?_
     refine qi0 ?_
     refine goA ?_
     refine za1 [1, 0, 2] rfl rfl ?_
     refine qc4 rfl rfl rfl rfl (hst st1) (hy _ y1 st1 (by rw [hsp]; exact qhl hx1 _ _) hk) fun b s' hR => ?_
     rcases hR with ⟨rfl, h8⟩ | ⟨rfl, h8⟩
     ·refine goA ?_
      refine zeh [1, 0, 2] rfl rfl ?_
      exact zng .normal none rfl s' (by rw [List.append_assoc] at h8; exact h8) (.refl _) (by simp [hst, zac])
     ·refine goA ?_
      refine zeh [1, 0, 2] rfl rfl ?_
      exact zng .ret (some .ret) rfl s' ⟨rfl, h8⟩ (.refl _) (by simp [hst, zac])
    ·rintro D k st2 z2 hz2 rfl h8
     refine goA ?_
     exact qg2 (D :: ds, j + 1, st2, z2) rfl ⟨rfl, rfl, rfl, rfl, rfl, rfl, rfl, trivial⟩ ⟨by simp only; omega, hz2, by simp only; rw [← zkx hy1, List.flatMap_append]; simpa using h8⟩ (fun w' hw' => hw'.perm (List.perm_middle (l₁ := [_, _, _, _, _, _, _])).symm) (by simp only; omega)
    ·rintro D e st2 z2 hz2 ⟨rfl, h8⟩
     refine goA ?_
     refine zb3 (fun w' hw' => hw'.perm (.cons _ (List.perm_append_comm (l₁ := [_, _, _, _, _, _, _]) (l₂ := ds.map zqh)))) ?_
     exact zyf (D :: ds) (zw3 st2 z2 rfl hz2 (.inr h8) (qo9 hst _ _ _) (.cons_cons _ (.cons _ (.cons_cons _ (List.nil_sublist _)))))
   ·refine goA ?_
    refine zb3 (fun w' hw' => hw'.perm (List.perm_append_comm (l₁ := [_, _, _, _, _, _, _]) (l₂ := ds.map zqh))) ?_
    rw [List.take_of_length_le (by omega)] at hI
    exact qh1 ds (qh6 st z rfl hz (.inl ⟨_, rfl, hI⟩) (qo9 hst _ _ _) (.cons_cons _ (.cons _ (.cons_cons _ (List.nil_sublist _)))))
end Go.Proofs.YtkkfifhaobjicaaGreatDoor
namespace Go.Eng
open Go.RowKit
section
variable {P : Program} {w0 : World} {F : Nat → Prop} {m : List Item} {l : zat} {H : World → Prop}
theorem qnl {n : Nat} {fn : Func} {R : Ending → World → Prop} {a1 a2 a3 a4 : Tmp} {b1 b2 b3 b4 : TypeId} {v u t s : Value} (hf : fn.results = #[.cell a1 b1, .cell a2 b2, .cell a3 b3, .cell a4 b4]) (h1 : zfd P l H (.cell a1 b1) v) (h2 : zfd P l H (.cell a2 b2) u) (h3 : zfd P l H (.cell a3 b3) t) (h4 : zfd P l H (.cell a4 b4) s) (h : ∀ w, H w → R (.returned (.tuple #[v, u, t, s])) w) : HX (bodyPost P fn R) .ret ⟨n, [], none⟩ l H := by
 unfold HX
 intro a w st hw
 obtain ⟨x1, y1, e1⟩ := zd9 h1 st hw
 obtain ⟨x2, y2, e2⟩ := zd9 h2 st hw
 obtain ⟨x3, y3, e3⟩ := zd9 h3 st hw
 obtain ⟨x4, y4, e4⟩ := zd9 h4 st hw
 refine bodyPost_ret (v := .tuple #[v, u, t, s]) ?_ st.defers (h w hw)
 simp [results, hf, asAddr, y1, y2, y3, y4, e1, e2, e3, e4]
theorem qlw {n : Nat} {fn : Func} {a1 a2 a3 a4 : Tmp} {b1 b2 b3 b4 : TypeId} {α : Type} {val : α → Value} {φ : α → Prop} {its : α → List Item} {u t v s : Value} (x : α) (hf : fn.results = #[.cell a1 b1, .cell a2 b2, .cell a3 b3, .cell a4 b4]) (h1 : zfd P l (Hp w0 F m) (.cell a1 b1) u) (h2 : zfd P l (Hp w0 F m) (.cell a2 b2) t) (h3 : zfd P l (Hp w0 F m) (.cell a3 b3) v) (h4 : zfd P l (Hp w0 F m) (.cell a4 b4) s) (e : .tuple #[u, t, v, s] = val x) (hφ : φ x) (hs : (its x).Sublist m) (hst : ∀ it ∈ its x, it.Stable none') : HX (bodyPost P fn (zkv w0 F val φ its)) .ret ⟨n, [], none⟩ l (Hp w0 F m) :=
 qnl hf h1 h2 h3 h4 fun w hw => ⟨x, by rw [e], hφ, hw.its hs hst⟩
end
end Go.Eng
namespace Go.Proofs.YtkkfifhaobjicaaGreatDoor
open Go.RowKit Go.Eng Go.Eng.Bm Go.Eng.Tr
set_option maxRecDepth 100000
set_option maxHeartbeats 40000000
def qp1 (s : Sh) (N : Nat) (g : Sg) (f : K) (root : Int) (xs : E) : Prop := (root = 0 ∧ xs = []) ∨ ∃ at_ : Nat, root = (at_ : Int) ∧ at_ ≠ 0 ∧ qnp s N g f 16 at_ xs
def frP (key : K) (also : Bool) (y : K × K) : Bool := decide (y.1 ≠ key) || also
def frV (r : Option (K × K)) : Value := .tuple #[kV ((r.map (·.1)).getD []), kV ((r.map (·.2)).getD []), .bool r.isSome, .int .i64 0]
def frB (b6 b7 b8 b9 b4 b5 : Nat) (key : K) (also : Bool) (r : Option (K × K)) : List Eng.Item := [pt b6 (.cells #[kV ((r.map (·.1)).getD [])] 9 (0, 0)), pt b7 (.cells #[kV ((r.map (·.2)).getD [])] 9 (0, 0)), pt b8 (.cells #[.bool r.isSome] 4 (0, 0)), pt b9 (.cells #[.int .i64 0] 33 (0, 0)), pt b4 (.cells #[kV key] 9 (0, 0)), pt b5 (.cells #[.bool also] 4 (0, 0))]
theorem zrg {α : Type} (A B C : List α) : (A ++ (B ++ C)).Perm (B ++ ((A ++ C) ++ [])) := by
 rw [List.append_nil, ← List.append_assoc, ← List.append_assoc]
 exact List.perm_append_comm.append_right _
theorem from_ok' {c : Tc} {g : Sg} {s : Pg} (h : Tok c g s) (root : Int) (key : K) (also : Bool) (hk : key.length ≤ 1000000) {xs : E} (hl : qp1 c.sh c.N g key root xs) (w : World) (hw : ∀ it ∈ [tmI c root s], za2 it w) :
  Ct Tryz.prog 25 #[.pointer (some ⟨c.t, 0, none⟩), kV key, .bool also] w (zap [tmI c root s]) (fun _ : Pg => frV (xs.find? (frP key also))) (fun s' => Tok c g s') (fun s' => [tmI c root s']) := by
 refine qf6 [_, _, _] _ Tryz.func25 rfl rfl hw (.cons (fun _ h => nomatch h) .nil) ?_
 simp only [zaa, Nat.reduceAdd]
 refine goA ?_
 refine zd2 rfl rfl rfl fun b4 hb4 => ?_
 refine zd2 rfl rfl rfl fun b5 hb5 => ?_
 refine zeb rfl rfl rfl fun b6 hb6 => ?_
 refine zeb rfl rfl rfl fun b7 hb7 => ?_
 refine zeb rfl rfl rfl fun b8 hb8 => ?_
 refine zeb rfl rfl rfl fun b9 hb9 => ?_
 refine goA ?_
 refine zlt (xs := [.tmp 9]) rfl rfl ?_
 refine goA ?_
 refine zae rfl (zag rfl (by kernel_rfl) rfl (fun w1 hw1 => zja h root w1 (za2.of (hw1.item (tmI c root s) mm) (zad _)))) fun _ => ?_
 refine goA ?_
 refine l_w rfl (zdv rfl mm) ?_
 refine goA ?_
 rcases hl with ⟨rfl, rfl⟩ | ⟨at_, rfl, h0, hA⟩
 ·refine goA ?_
  refine za0 rfl (zak (zdl _ _ _ _ _) (zaj rfl rfl rfl rfl rfl rfl (by simp))) fun _ => ?_
  refine za0 rfl (zak (zdl _ _ _ _ _) (zaj rfl rfl rfl rfl rfl rfl (by simp))) fun _ => ?_
  refine za0 rfl (zak (zdl _ _ _ _ _) (zaj rfl rfl rfl rfl rfl rfl (by simp))) fun _ => ?_
  refine za0 rfl (zak (zdl _ _ _ _ _) (zaj rfl rfl rfl rfl rfl rfl (by simp))) fun _ => ?_
  refine goA ?_
  refine zl7 (by kernel_rfl) (fun w hw => zdt _ w) (zi2 ?_)
  exact qlw s rfl ⟨_, rfl, za8 rfl mm⟩ ⟨_, rfl, za8 rfl mm⟩ ⟨_, rfl, za8 rfl mm⟩ ⟨_, rfl, za8 rfl mm⟩ rfl h (.cons _ (.cons _ (.cons _ (.cons _ (.cons _ (.cons _ (.refl _))))))) (zah _ _ _)
 ·refine goA ?_
  refine zde [3, 2, 1, 0, 5, 4, 6] rfl rfl ?_
  refine zaq [0, 1, 2, 3, 4, 5, 6] 6 rfl rfl (by kernel_rfl) ?_
  refine goE ?_
  refine d_v [] rfl rfl (by kernel_rfl) (fun _ h => goH h) rfl rfl (zdv rfl mm) ?_
  refine goE ?_
  refine zdk ⟨by kernel_rfl, by kernel_rfl⟩ rfl rfl (qck (xs := [.tmp 19, .tmp 23, .const (.int .i64 16), .tmp 24]) rfl (by kernel_rfl) rfl (fun w1 hw1 => zmn c at_ 16 key w1)) fun ⟨x, _⟩ => ?_
  dsimp only
  refine goA ?_
  refine zr1 (m' := frB b6 b7 b8 b9 b4 b5 key also none ++ ((qc6 x c at_ 16 key ++ [tmI c at_ s]) ++ [])) (zrg (qc6 x c at_ 16 key) (frB b6 b7 b8 b9 b4 b5 key also none) [tmI c at_ s]) ?_
  refine zs4 (frB b6 b7 b8 b9 b4 b5 key also) (fun k r => r = none ∧ ∀ y ∈ k, frP key also y = false) (fun e r => e = .ret ∧ ∃ y, r = some y ∧ xs.find? (frP key also) = some y) none rfl rfl (by kernel_rfl) (zy2 c at_ g key 16 at_ xs s x (by omega) h hA) (fun _ => rfl) (by decide) (fun r => by simp [frB, zac]) (fun it hm => by
   rcases List.mem_append.1 hm with hm | hm
   ·exact zh2 _ _ _ _ _ it hm
   ·exact zah _ _ _ it hm) ⟨rfl, fun _ h => nomatch h⟩ ?_ ?_ ?_
  ·rintro ly rc k y r W hx ⟨rfl, hk1⟩
   simp only [zm7, List.zip_cons_cons, List.zip_nil_right, frB]
   refine goA ?_
   refine qi0 ?_
   refine goA ?_
   refine zdc 28 _ (.string (kB y.1)) rfl rfl ?_
   refine zdc 29 _ (.string (kB key)) rfl rfl ?_
   refine goA ?_
   rw [show seq (kB y.1) (kB key) = decide (y.1 = key) from zjx y.1 key]
   cases hb : frP key also y with
   | false =>
    obtain ⟨he, rfl⟩ : y.1 = key ∧ also = false := by simpa [frP] using hb
    rw [decide_eq_true he]
    refine goA ?_
    exact zng .normal none rfl none ⟨rfl, fun z hz => by
     rcases List.mem_append.1 hz with hz | hz
     ·exact hk1 z hz
     ·rw [List.mem_singleton.1 hz]; exact hb⟩ (.refl _) (by simp [frB, zac])
   | true =>
    have hfind : xs.find? (frP key also) = some y := by
     obtain ⟨r, hr⟩ := hx
     rw [← hr, List.append_assoc, List.find?_append, List.find?_eq_none.2 (fun z hz => by rw [hk1 z hz]; exact Bool.false_ne_true), Option.none_or]
     show (y :: r).find? _ = _
     rw [List.find?_cons_of_pos hb]
    by_cases he : y.1 = key
    ·obtain rfl : also = true := by simpa [frP, he] using hb
     rw [decide_eq_true he]
     refine goA ?_
     refine za0 rfl (zak (zci _ _ _) (zaj rfl rfl rfl rfl rfl rfl (by simp))) fun _ => ?_
     refine za0 rfl (zak (zc9 _ _ _ _) (zaj rfl rfl rfl rfl rfl rfl (by simp))) fun _ => ?_
     refine za0 rfl (zak (zdl _ _ _ _ _) (zaj rfl rfl rfl rfl rfl rfl (by simp))) fun _ => ?_
     refine za0 rfl (zak (zhl _ _ _ _ _ _) (zaj rfl rfl rfl rfl rfl rfl (by simp))) fun _ => ?_
     refine goA ?_
     refine zeh [4, 3, 2, 1, 0, 5, 6] rfl rfl ?_
     exact zng .ret (some .ret) rfl (some y) ⟨rfl, y, rfl, hfind⟩ (.refl _) (by simp [frB, zac])
    ·rw [decide_eq_false he]
     refine goA ?_
     refine za0 rfl (zak (zci _ _ _) (zaj rfl rfl rfl rfl rfl rfl (by simp))) fun _ => ?_
     refine za0 rfl (zak (zc9 _ _ _ _) (zaj rfl rfl rfl rfl rfl rfl (by simp))) fun _ => ?_
     refine za0 rfl (zak (zdl _ _ _ _ _) (zaj rfl rfl rfl rfl rfl rfl (by simp))) fun _ => ?_
     refine za0 rfl (zak (zhl _ _ _ _ _ _) (zaj rfl rfl rfl rfl rfl rfl (by simp))) fun _ => ?_
     refine goA ?_
     refine zeh [4, 3, 2, 1, 0, 5, 6] rfl rfl ?_
     exact zng .ret (some .ret) rfl (some y) ⟨rfl, y, rfl, hfind⟩ (.refl _) (by simp [frB, zac])
  ·rintro D k r z hz rfl ⟨rfl, hk1⟩
   simp only [frB, List.cons_append, List.nil_append]
   refine goA ?_
   refine za0 rfl (zak (zci _ _ _) (zaj rfl rfl rfl rfl rfl rfl (by simp))) fun _ => ?_
   refine za0 rfl (zak (zc9 _ _ _ _) (zaj rfl rfl rfl rfl rfl rfl (by simp))) fun _ => ?_
   refine za0 rfl (zak (zdl _ _ _ _ _) (zaj rfl rfl rfl rfl rfl rfl (by simp))) fun _ => ?_
   refine za0 rfl (zak (zhl _ _ _ _ _ _) (zaj rfl rfl rfl rfl rfl rfl (by simp))) fun _ => ?_
   refine goA ?_
   refine zeh [4, 0, 1, 2, 3, 5, 6, 7] rfl rfl ?_
   refine zt4 (zl7 (by kernel_rfl) (fun w hw => zdt _ w) (zi2 ?_))
   have hn : k.find? (frP key also) = none := List.find?_eq_none.2 fun y hy => by rw [hk1 y hy]; exact Bool.false_ne_true
   rw [hn]
   exact qlw z rfl ⟨_, rfl, za8 rfl mm⟩ ⟨_, rfl, za8 rfl mm⟩ ⟨_, rfl, za8 rfl mm⟩ ⟨_, rfl, za8 rfl mm⟩ rfl hz (.cons _ (.cons _ (.cons _ (.cons _ (.cons _ (.cons _ (.refl _))))))) (zah _ _ _)
  ·rintro D e r z hz ⟨rfl, y, rfl, hf⟩
   simp only [frB, List.cons_append, List.nil_append]
   refine goA ?_
   refine zt4 (zl7 (by kernel_rfl) (fun w hw => zdt _ w) (zi2 ?_))
   rw [hf]
   exact qlw z rfl ⟨_, rfl, za8 rfl mm⟩ ⟨_, rfl, za8 rfl mm⟩ ⟨_, rfl, za8 rfl mm⟩ ⟨_, rfl, za8 rfl mm⟩ rfl hz (.cons _ (.cons _ (.cons _ (.cons _ (.cons _ (.cons _ (.refl _))))))) (zah _ _ _)
theorem qls {c : Tc} {g : Sg} {s : Pg} (h : Tok c g s) (root : Int) {xs : E} (hl : qp1 c.sh c.N g [] root xs) {σ : Type} (D : σ → List Eng.Item) (I : E → σ → Prop) (J : σ → Prop) (s0 : σ) {fd : FuncId} {cs : List Value} (hb : zb9 Tryz.prog fd = true) (hst : ∀ st, ∀ it ∈ D st, it.Stable none') (h0 : I [] s0)
  (hcall : ∀ k y st, (k ++ [y]) <+: xs → I k st → ∀ w, (∀ it ∈ D st, za2 it w) → (D st).Pairwise Eng.Item.Apart → Ct Tryz.prog fd (kV y.1 :: kV y.2 :: cs).toArray w (zap (D st)) (fun x : Bool × σ => .bool x.1) (fun x => (x.1 = true ∧ I (k ++ [y]) x.2) ∨ (x.1 = false ∧ J x.2)) (fun x => D x.2))
  (w : World) (hw : ∀ it ∈ tmI c root s :: D s0, za2 it w) (ha : (tmI c root s :: D s0).Pairwise Eng.Item.Apart) :
  Ct Tryz.prog 28 #[.pointer (some ⟨c.t, 0, none⟩), .func (.func fd) #[] cs.toArray] w (zap (tmI c root s :: D s0)) (fun _ : Pg × σ => .int .i64 0) (fun x => Tok c g x.1 ∧ (I xs x.2 ∨ J x.2)) (fun x => tmI c root x.1 :: D x.2) := by
 have hst2 : ∀ s' st, ∀ it ∈ tmI c root s' :: D st, it.Stable none' := by
  intro s' st it hm
  rcases hm with _ | ⟨_, hm⟩
  ·exact zad _
  ·exact hst st it hm
 refine qf6 [_, _] _ Tryz.func28 rfl rfl hw ha ?_
 simp only [zaa, Nat.reduceAdd]
 refine goA ?_
 refine zd2 rfl rfl rfl fun b3 hb3 => ?_
 refine zeb rfl rfl rfl fun b4 hb4 => ?_
 refine goA ?_
 refine zlt (xs := [.tmp 4]) rfl rfl ?_
 refine goA ?_
 refine l_w rfl (zuw (v' := .bool true) (ov fun _ _ _ _ _ => rfl) rfl) ?_
 refine goA ?_
 refine zae rfl (zag rfl (by kernel_rfl) rfl (fun w1 hw1 => zef _ w1)) fun _ => ?_
 refine goA ?_
 refine zae rfl (zag rfl (by kernel_rfl) rfl (fun w1 hw1 => zja h root w1 (za2.of (hw1.item (tmI c root s) mm) (zad _)))) fun _ => ?_
 refine goA ?_
 refine l_w rfl (zdv rfl mm) ?_
 refine goA ?_
 rcases hl with ⟨rfl, rfl⟩ | ⟨at_, rfl, hn0, hA⟩
 ·refine goA ?_
  refine za0 rfl (zaj rfl rfl rfl rfl rfl rfl (by simp)) fun _ => ?_
  refine goA ?_
  refine zl7 (by kernel_rfl) (fun w hw => zdt _ w) (zi2 ?_)
  exact zbw (s, s0) rfl ⟨_, rfl, za8 rfl mm⟩ rfl ⟨h, .inl h0⟩ (.cons _ (.cons _ (.refl _))) (hst2 _ _)
 ·refine goA ?_
  refine l_w rfl (zdv rfl mm) ?_
  refine goA ?_
  refine ze5 rfl rfl (by kernel_rfl) rfl (fun w1 hw1 => zmn c at_ 16 [] w1) fun x hx => ?_
  refine goA ?_
  refine zr1 (m' := ([pt b3 (.cells #[.func (.func fd) #[] cs.toArray] 78 (0, 0)), pt b4 (.cells #[.int .i64 0] 33 (0, 0))] ++ D s0) ++ ((qc6 x c at_ 16 [] ++ [tmI c at_ s]) ++ [])) ?_ ?_
  ·exact (List.Perm.append_left _ ((List.Perm.swap _ _ _).trans (.cons _ (.cons _ (List.perm_append_singleton _ _).symm)))).trans (zrg (qc6 x c at_ 16 []) (pt b3 (.cells #[.func (.func fd) #[] cs.toArray] 78 (0, 0)) :: pt b4 (.cells #[.int .i64 0] 33 (0, 0)) :: D s0) [tmI c at_ s])
  refine zs4 (fun st => [pt b3 (.cells #[.func (.func fd) #[] cs.toArray] 78 (0, 0)), pt b4 (.cells #[.int .i64 0] 33 (0, 0))] ++ D st) I (fun e st => e = .exit 0 ∧ J st) s0 rfl rfl (by kernel_rfl) (zy2 c at_ g [] 16 at_ xs s x (by omega) h hA) (fun _ => rfl) (by decide) (fun st it hm => by
   rcases List.mem_append.1 hm with hm | hm
   ·have : ∀ it ∈ [pt b3 (.cells #[.func (.func fd) #[] cs.toArray] 78 (0, 0)), pt b4 (.cells #[.int .i64 0] 33 (0, 0))], it.Stable none' := by simp [zac]
    exact this it hm
   ·exact hst st it hm) (fun it hm => by
   rcases List.mem_append.1 hm with hm | hm
   ·exact zh2 _ _ _ _ _ it hm
   ·exact zah _ _ _ it hm) h0 ?_ ?_ ?_
  ·rintro ly rc k y st W hx hk1
   simp only [zm7, List.zip_cons_cons, List.zip_nil_right, List.cons_append, List.nil_append]
   refine goA ?_
   refine qi0 ?_
   refine goA ?_
   refine zju (List.perm_append_comm (l₁ := [_, _, _]) (l₂ := D st)) ?_
   refine zae rfl (qhk (pre := D st) (fs := []) (cs := cs) (xs := [.tmp 26, .tmp 27]) rfl hb rfl rfl rfl (hst st) (fun w1 hw1 hh1 ha1 => hcall k y st hx hk1 w1 hh1 ha1)) fun ⟨⟨b, st1⟩, hR⟩ => ?_
   simp only at hR ⊢
   refine zju (List.perm_append_comm (l₁ := D st1) (l₂ := [_, _, _])) ?_
   have hstB : ∀ it ∈ [pt b3 (.cells #[.func (.func fd) #[] cs.toArray] 78 (0, 0)), pt b4 (.cells #[.int .i64 0] 33 (0, 0))] ++ D st1, it.Stable none' := fun it hm => by
    rcases List.mem_append.1 hm with hm | hm
    ·have : ∀ it ∈ [pt b3 (.cells #[.func (.func fd) #[] cs.toArray] 78 (0, 0)), pt b4 (.cells #[.int .i64 0] 33 (0, 0))], it.Stable none' := by simp [zac]
     exact this it hm
    ·exact hst st1 it hm
   rcases hR with ⟨rfl, h8⟩ | ⟨rfl, h8⟩
   ·refine goA ?_
    exact zng .normal none rfl st1 h8 (.refl _) hstB
   ·refine goA ?_
    exact zng (.exit 0) (some (.exit 0)) rfl st1 ⟨rfl, h8⟩ (.refl _) hstB
  ·rintro D' k st z hz rfl hk1
   simp only [List.cons_append, List.nil_append, List.append_nil]
   refine zb3 (fun w' hw' => hw'.perm (.cons _ (.cons _ (.cons _ (List.perm_append_singleton _ _))))) ?_
   refine goA ?_
   refine za0 rfl (zak (zc9 _ _ _ _) (zaj rfl rfl rfl rfl rfl rfl (by simp))) fun _ => ?_
   refine goA ?_
   refine zb3 (fun w' hw' => hw'.perm (.swap _ _ _)) ?_
   refine zt4 (zl7 (by kernel_rfl) (fun w hw => zdt _ w) (zi2 ?_))
   exact zbw (z, st) rfl ⟨_, rfl, za8 rfl mm⟩ rfl ⟨hz, .inl hk1⟩ (.cons _ (.cons _ (.refl _))) (hst2 _ _)
  ·rintro D' e st z hz ⟨rfl, hJ⟩
   simp only [List.cons_append, List.nil_append, List.append_nil]
   refine zr1 (.cons _ (.cons _ (.cons _ (List.perm_append_singleton _ _)))) ?_
   refine goA ?_
   refine za0 rfl (zak (zc9 _ _ _ _) (zaj rfl rfl rfl rfl rfl rfl (by simp))) fun _ => ?_
   refine goA ?_
   refine zb3 (fun w' hw' => hw'.perm (.swap _ _ _)) ?_
   refine zt4 (zl7 (by kernel_rfl) (fun w hw => zdt _ w) (zi2 ?_))
   exact zbw (z, st) rfl ⟨_, rfl, za8 rfl mm⟩ rfl ⟨hz, .inr hJ⟩ (.cons _ (.cons _ (.refl _))) (hst2 _ _)
end Go.Proofs.YtkkfifhaobjicaaGreatDoor
