/- tree: poor, joined. Own work; no condition. -/
import Derived.Test.YtkkfifhaobjicaaGreatDoorHb40
namespace Go.Eng
open Go.RowKit
variable {P : Program} {Q : Exit → Act → World → Prop} {N : Fm} {l : zat} {ops : Array Oper} {w0 : World} {F : Nat → Prop} {m : List Item} {ty : TypeId} {pos : String} {after : Array Edge}
theorem qce {T e : TypeId} {d x y b : Nat} {z v u : Value} {g : Option (Nat × Bool)} (hx : get l x = some v) (hy : get l y = some u) (hd : Nat.ble (d + 1) N.n = true) (hT : zka P T = some e) (hi : zqb P e = some (1, b, z)) (hv : v.cells = #[v]) (hu : u.cells = #[u]) :
  HO P ⟨some d, .buildSlice T 2 #[(0, .tmp x), (1, .tmp y)], ty, pos, after, g⟩ Q N l (Hp w0 F m) (α := { b : Nat // w0.heap.size ≤ b }) (fun c => (d, .slice (some ⟨c.1, 0, none⟩) 2 2) :: l) (fun c => Hp w0 F (own e 1 (some (c.1, 2)) 2 [v, u] :: m)) := by
 have hp : zh7 1 l [(0, .tmp x), (1, .tmp y)] = some [(0 * 1, 1, v), (1 * 1, 1, u)] := by simp [zh7, evO, hx, hy]
 have h := zbc (Q := Q) (N := N) (m := m) (w0 := w0) (F := F) (ty := ty) (pos := pos) (after := after) (g := g) (len := 2) (ps := [(0, .tmp x), (1, .tmp y)]) (L := [(0 * 1, 1, v), (1 * 1, 1, u)]) (d := d) (by simpa [zfj, zg7, zem, Op.operands, zek, hx, hy] using hd) hT hi hp (by decide) (by simp [zdh, hv, hu])
 have e1 : zei (zcu z (2 * 1)) [(0 * 1, 1, v), (1 * 1, 1, u)] = [v, u] := by
  simp [zei, over, zcu, hv, hu, List.range, List.range.loop]
 rw [e1] at h
 exact h
theorem qnr {T e : TypeId} {d x y s b : Nat} {z v u t : Value} {g : Option (Nat × Bool)} (hx : get l x = some v) (hy : get l y = some u) (hs : get l s = some t) (hd : Nat.ble (d + 1) N.n = true) (hT : zka P T = some e) (hi : zqb P e = some (1, b, z)) (hv : v.cells = #[v]) (hu : u.cells = #[u]) (ht : t.cells = #[t]) :
  HO P ⟨some d, .buildSlice T 3 #[(0, .tmp x), (1, .tmp y), (2, .tmp s)], ty, pos, after, g⟩ Q N l (Hp w0 F m) (α := { b : Nat // w0.heap.size ≤ b }) (fun c => (d, .slice (some ⟨c.1, 0, none⟩) 3 3) :: l) (fun c => Hp w0 F (own e 1 (some (c.1, 3)) 3 [v, u, t] :: m)) := by
 have hp : zh7 1 l [(0, .tmp x), (1, .tmp y), (2, .tmp s)] = some [(0 * 1, 1, v), (1 * 1, 1, u), (2 * 1, 1, t)] := by simp [zh7, evO, hx, hy, hs]
 have h := zbc (Q := Q) (N := N) (m := m) (w0 := w0) (F := F) (ty := ty) (pos := pos) (after := after) (g := g) (len := 3) (ps := [(0, .tmp x), (1, .tmp y), (2, .tmp s)]) (L := [(0 * 1, 1, v), (1 * 1, 1, u), (2 * 1, 1, t)]) (d := d) (by simpa [zfj, zg7, zem, Op.operands, zek, hx, hy, hs] using hd) hT hi hp (by decide) (by simp [zdh, hv, hu, ht])
 have e1 : zei (zcu z (3 * 1)) [(0 * 1, 1, v), (1 * 1, 1, u), (2 * 1, 1, t)] = [v, u, t] := by
  simp [zei, over, zcu, hv, hu, ht, List.range, List.range.loop]
 rw [e1] at h
 exact h
theorem zrf {w : World} {xs : List Value} (h : Rd w none xs) : xs = [] := by
 rcases h with h | ⟨_, _, h, _⟩
 ·exact h
 ·cases h
end Go.Eng
namespace Go.Proofs.YtkkfifhaobjicaaGreatDoor
open Go.RowKit Go.Eng Go.Eng.Bm Go.Eng.Tr
set_option maxRecDepth 100000
set_option maxHeartbeats 40000000
def zv2 (s : Sh) (n : Nd) : Int := if n.leaf then ((s.cap / 2 : Nat) : Int) - (n.keys.length : Int) else ((s.fan / 2 : Nat) : Int) - (n.kids.length : Int)
theorem ztu (s : Sh) (n : Nd) : decide (zv2 s n > 0) = zht s n := by
 unfold zv2 zht
 split
 ·rw [decide_eq_decide]; omega
 ·rw [decide_eq_decide]; omega
theorem qkj {l : zat} {w0 : World} {m : List Eng.Item} {ty : TypeId} {x : Operand} {c : Tc} {root : Int} {s : Pg} (h : za2 (tmI c root s) w0) (hx : evO l x = some (.pointer (some ⟨c.t, 1, none⟩))) : OV Tryz.prog (.load 45 x) ty l (Hp w0 none' m) (shV c.sh) :=
 zfi (xs := [.int .i64 (c.sh.kw : Int), .int .i64 (c.sh.vw : Int)]) (c := #[.int .i64 (c.sh.kw : Int), .int .i64 (c.sh.vw : Int)]) hx rfl (fun w' hw' => by
  have h1 : w'.rangeAt c.t 0 [.pointer (some ⟨c.pb, 0, none⟩), .int .i64 (c.sh.kw : Int), .int .i64 (c.sh.vw : Int), .int .i64 root] := za7 ((h.keep hw').1.1 _ (.head _)).1
  have h2 := zfp (k := 2) (zgx (k := 1) h1)
  rw [Nat.zero_add] at h2
  exact h2) rfl
theorem qb7 {c : Tc} {g : Sg} {s : Pg} (ht : Tok c g s) (root : Int) (n : Nd) (a : Pl) (hk : n.keys.length ≤ 1000) (hd : n.kids.length ≤ 1000) (w : World) (h : za2 (tmI c root s) w) : Pu Tryz.prog 65 #[.pointer (some ⟨c.t, 0, none⟩), ndV n a] w (.int .i64 (zv2 c.sh n)) := by
 have hsh : ShB c.sh := ht.sh
 have e1 : c.sh.cap ≤ 508 := Nat.div_le_self _ _
 have e2 : c.sh.fan ≤ 508 + c.sh.kw := Nat.div_le_self _ _
 have e3 := hsh.k2
 refine zbl [_, _] Tryz.func65 rfl rfl ?_
 unfold ndV zv2
 obtain ⟨lf, hlf⟩ : ∃ x, n.leaf = x := ⟨_, rfl⟩
 rw [hlf]
 simp only [zaa, Nat.reduceAdd]
 refine goA ?_
 refine zb0 rfl rfl fun b3 hb3 => ?_
 refine goA ?_
 cases lf with
 | true =>
  refine goA ?_
  refine zaq [0] 11 rfl rfl (by kernel_rfl) ?_
  (repeat first | refine dAv [3] rfl rfl rfl ?_ | refine dno [3] rfl rfl rfl ?_ | refine dT [3] rfl rfl rfl rfl ?_ | refine dF [3] rfl rfl rfl rfl ?_)
  refine d_v [] rfl rfl (by kernel_rfl) (fun _ h => goH h) rfl rfl (qkj h rfl) ?_
  refine zau 4 ⟨by kernel_rfl, by decide⟩ rfl rfl (zag rfl (by kernel_rfl) rfl (fun w1 hw1 => zhf hsh w1)) (fun _ _ h => h) fun _ => ?_
  refine goE ?_
  refine d_v [] rfl rfl (by kernel_rfl) (fun _ h => goH h) rfl rfl (zsd rfl rfl (by omega)) ?_
  refine goE ?_
  refine zbs (by kernel_rfl) ?_
  refine goA ?_
  exact zc2 rfl rfl rfl
 | false =>
  refine goA ?_
  refine zaq [0] 11 rfl rfl (by kernel_rfl) ?_
  (repeat first | refine dAv [3] rfl rfl rfl ?_ | refine dno [3] rfl rfl rfl ?_ | refine dT [3] rfl rfl rfl rfl ?_ | refine dF [3] rfl rfl rfl rfl ?_)
  refine d_v [] rfl rfl (by kernel_rfl) (fun _ h => goH h) rfl rfl (qkj h rfl) ?_
  refine zau 4 ⟨by kernel_rfl, by decide⟩ rfl rfl (zag rfl (by kernel_rfl) rfl (fun w1 hw1 => zhh hsh w1)) (fun _ _ h => h) fun _ => ?_
  refine goE ?_
  refine d_v [] rfl rfl (by kernel_rfl) (fun _ h => goH h) rfl rfl (zsd rfl rfl (by omega)) ?_
  refine goE ?_
  refine zbs (by kernel_rfl) ?_
  refine goA ?_
  exact zc2 rfl rfl rfl
theorem qm9 {sb : Nat} {k1 k2 : List K} {a1 a2 : Option Addr} {c1 c2 n1 n2 : Nat} (h1 : k1.length = n1) (h2 : k2.length = n2) (hb : n1 + n2 ≤ 10000) (w : World) (hs : w.rangeAt sb 0 [.slice a1 n1 c1, .slice a2 n2 c2]) (r1 : Rd w a1 (k1.map kV)) (r2 : Rd w a2 (k2.map kV)) :
  Ct Tryz.prog 142 #[.slice (some ⟨sb, 0, none⟩) 2 2] w none' (fun o : Option (Nat × Nat) => slV o (k1 ++ k2).length) (fun _ => True) (fun o => [own 9 1 o (k1 ++ k2).length ((k1 ++ k2).map kV)]) := by
 have h := zko sb [(a1, c1, k1.map kV), (a2, c2, k2.map kV)] 2 rfl (by decide) (by simp [zkq]) (by simp; omega) (by
  intro p hp e
  rcases List.mem_cons.1 hp with rfl | hp
  ·simp only at e; subst e; exact zrf r1
  ·rcases List.mem_cons.1 hp with rfl | hp
   ·simp only at e; subst e; exact zrf r2
   ·cases hp) w (by simpa [qmb, h1, h2] using hs) (by
  intro p hp
  rcases List.mem_cons.1 hp with rfl | hp
  ·exact r1
  ·rcases List.mem_cons.1 hp with rfl | hp
   ·exact r2
   ·cases hp)
 have e : ([(a1, c1, k1.map kV), (a2, c2, k2.map kV)] : List (Option Addr × Nat × List Value)).flatMap (fun p => p.2.2) = (k1 ++ k2).map kV := by simp
 rw [e] at h
 simpa using h
theorem qp2 {sb : Nat} {k1 k2 : List Nat} {a1 a2 : Option Addr} {c1 c2 n1 n2 : Nat} (h1 : k1.length = n1) (h2 : k2.length = n2) (hb : n1 + n2 ≤ 10000) (w : World) (hs : w.rangeAt sb 0 [.slice a1 n1 c1, .slice a2 n2 c2]) (r1 : Rd w a1 (k1.map iV)) (r2 : Rd w a2 (k2.map iV)) :
  Ct Tryz.prog 143 #[.slice (some ⟨sb, 0, none⟩) 2 2] w none' (fun o : Option (Nat × Nat) => slV o (k1 ++ k2).length) (fun _ => True) (fun o => [own 3 1 o (k1 ++ k2).length ((k1 ++ k2).map iV)]) := by
 have h := ztt sb [(a1, c1, k1.map iV), (a2, c2, k2.map iV)] 2 rfl (by decide) (by simp [qdj]) (by simp; omega) (by
  intro p hp e
  rcases List.mem_cons.1 hp with rfl | hp
  ·simp only at e; subst e; exact zrf r1
  ·rcases List.mem_cons.1 hp with rfl | hp
   ·simp only at e; subst e; exact zrf r2
   ·cases hp) w (by simpa [qmy, h1, h2] using hs) (by
  intro p hp
  rcases List.mem_cons.1 hp with rfl | hp
  ·exact r1
  ·rcases List.mem_cons.1 hp with rfl | hp
   ·exact r2
   ·cases hp)
 have e : ([(a1, c1, k1.map iV), (a2, c2, k2.map iV)] : List (Option Addr × Nat × List Value)).flatMap (fun p => p.2.2) = (k1 ++ k2).map iV := by simp
 rw [e] at h
 simpa using h
theorem qp5 {sb xb : Nat} {k1 k2 : List K} {key : K} {a1 a2 : Option Addr} {c1 c2 n1 n2 : Nat} (h1 : k1.length = n1) (h2 : k2.length = n2) (hb : n1 + n2 ≤ 10000) (w : World) (hs : w.rangeAt sb 0 [.slice a1 n1 c1, .slice (some ⟨xb, 0, none⟩) 1 1, .slice a2 n2 c2]) (r1 : Rd w a1 (k1.map kV)) (r0 : Rd w (some ⟨xb, 0, none⟩) [kV key]) (r2 : Rd w a2 (k2.map kV)) :
  Ct Tryz.prog 142 #[.slice (some ⟨sb, 0, none⟩) 3 3] w none' (fun o : Option (Nat × Nat) => slV o (k1 ++ key :: k2).length) (fun _ => True) (fun o => [own 9 1 o (k1 ++ key :: k2).length ((k1 ++ key :: k2).map kV)]) := by
 have h := zko sb [(a1, c1, k1.map kV), (some ⟨xb, 0, none⟩, 1, [kV key]), (a2, c2, k2.map kV)] 3 rfl (by decide) (by
  intro p hp
  rcases List.mem_cons.1 hp with rfl | hp
  ·exact zkq _
  ·rcases List.mem_cons.1 hp with rfl | hp
   ·rfl
   ·rcases List.mem_cons.1 hp with rfl | hp
    ·exact zkq _
    ·cases hp) (by simp; omega) (by
  intro p hp e
  rcases List.mem_cons.1 hp with rfl | hp
  ·simp only at e; subst e; exact zrf r1
  ·rcases List.mem_cons.1 hp with rfl | hp
   ·cases e
   ·rcases List.mem_cons.1 hp with rfl | hp
    ·simp only at e; subst e; exact zrf r2
    ·cases hp) w (by simpa [qmb, h1, h2] using hs) (by
  intro p hp
  rcases List.mem_cons.1 hp with rfl | hp
  ·exact r1
  ·rcases List.mem_cons.1 hp with rfl | hp
   ·exact r0
   ·rcases List.mem_cons.1 hp with rfl | hp
    ·exact r2
    ·cases hp)
 have e : ([(a1, c1, k1.map kV), (some ⟨xb, 0, none⟩, 1, [kV key]), (a2, c2, k2.map kV)] : List (Option Addr × Nat × List Value)).flatMap (fun p => p.2.2) = (k1 ++ key :: k2).map kV := by simp
 rw [e] at h
 simpa using h
theorem zvp (x y : Nd) (ax ay : Pl) (key : K) (hx1 : x.keys.length ≤ 1000) (hx2 : x.vals.length ≤ 1000) (hx3 : x.kids.length ≤ 1000) (hy1 : y.keys.length ≤ 1000) (hy2 : y.vals.length ≤ 1000) (hy3 : y.kids.length ≤ 1000) (w : World) (rx : NdR w x ax) (ry : NdR w y ay) :
  Ct Tryz.prog 106 #[ndV x ax, ndV y ay, kV key] w none' (fun o : Po => .agg (ndO (zcl x y key) o)) (fun _ => True) (fun o => ndI (zcl x y key) o) := by
 obtain ⟨⟨ka, kc⟩, ⟨va, vc⟩, ⟨da, dc⟩⟩ := ax
 obtain ⟨⟨ka2, kc2⟩, ⟨va2, vc2⟩, ⟨da2, dc2⟩⟩ := ay
 refine zfo [_, _, _] Tryz.func106 rfl rfl ?_
 unfold ndV
 simp only
 obtain ⟨lf, hlf⟩ : ∃ b, x.leaf = b := ⟨_, rfl⟩
 unfold zcl
 rw [hlf]
 simp only [zaa, Nat.reduceAdd]
 refine goA ?_
 refine zb0 rfl rfl fun b3 hb3 => ?_
 refine goA ?_
 refine zb0 rfl rfl fun b4 hb4 => ?_
 refine goA ?_
 refine zan rfl rfl fun b6 hb6 => ?_
 refine goA ?_
 cases lf with
 | true =>
  rw [if_pos rfl]
  refine goA ?_
  refine zaq [1, 2] 13 rfl rfl (by kernel_rfl) ?_
  refine goE ?_
  refine qjf 4 5 10 11 (A := []) (B := []) (A' := fun o : { o : Option (Nat × Nat) // True } => [own 9 1 o.1 (x.keys ++ y.keys).length ((x.keys ++ y.keys).map kV)]) (B' := fun o : { o : Option (Nat × Nat) // True } => [own 9 1 o.1 (x.vals ++ y.vals).length ((x.vals ++ y.vals).map kV)]) (by kernel_rfl) rfl rfl rfl rfl rfl rfl rfl rfl rfl rfl rfl rfl rfl (fun _ h => h.sub (.cons _ (.refl _))) (fun l' m' ext => qce (ext 10 _ rfl) (ext 12 _ rfl) (by kernel_rfl) rfl rfl rfl rfl) (fun a l' m' ext hd => zza (fun _ => .cons_cons _ (.cons _ (.refl _))) (qbj hd (by kernel_rfl) (by kernel_rfl) (fun w1 hw1 => qm9 rfl rfl (by omega) w1 (zee (hw1.item _ (.head _)).1) (rx.k.keep hw1) (ry.k.keep hw1)))) (fun l' m' ext => qce (ext 16 _ rfl) (ext 18 _ rfl) (by kernel_rfl) rfl rfl rfl rfl) (fun a l' m' ext hd => zza (fun _ => .cons_cons _ (.cons _ (.refl _))) (qbj hd (by kernel_rfl) (by kernel_rfl) (fun w1 hw1 => qm9 rfl rfl (by omega) w1 (zee (hw1.item _ (.head _)).1) (rx.v.keep hw1) (ry.v.keep hw1)))) fun ⟨o1, _⟩ ⟨o2, _⟩ => ?_
  refine qka (fun w hw => And.intro (zav (hw.item (own 9 1 o1 (x.keys ++ y.keys).length ((x.keys ++ y.keys).map kV)) mm).1).1 (zav (hw.item (own 9 1 o2 (x.vals ++ y.vals).length ((x.vals ++ y.vals).map kV)) mm).1).1) fun ⟨f1, f2⟩ => ?_
  rw [f1, f2]
  refine goE ?_
  refine ze9 [2, 0, 1, 3, 4] rfl rfl ?_
  refine zdk ⟨by kernel_rfl, by kernel_rfl⟩ rfl rfl (zai (cs' := #[.bool true, .slice (slA o1) (x.keys ++ y.keys).length (slC o1), .slice (slA o2) (x.vals ++ y.vals).length (slC o2), .slice none 0 0]) rfl rfl rfl rfl rfl rfl) fun _ => ?_
  refine goA ?_
  refine zb3 (m' := [own 9 1 o1 (x.keys ++ y.keys).length ((x.keys ++ y.keys).map kV), own 9 1 o2 (x.vals ++ y.vals).length ((x.vals ++ y.vals).map kV), own 3 1 none 0 [], pt b6 (.cells #[.bool true, .slice (slA o1) (x.keys ++ y.keys).length (slC o1), .slice (slA o2) (x.vals ++ y.vals).length (slC o2), .slice none 0 0] 101 (0, 0))]) (fun w hw => (zd5 3 1 hw).pick [2, 3, 0, 1] rfl rfl) ?_
  exact zbw ⟨o1, o2, none⟩ rfl ⟨_, rfl, zas rfl (.tail _ (.tail _ (.tail _ (.head _))))⟩ (by simp only [ndO, lNd]; rw [f1, f2]; rfl) trivial (.cons_cons _ (.cons_cons _ (.cons_cons _ (List.nil_sublist _)))) (zmi _ _)
 | false =>
  rw [if_neg Bool.false_ne_true]
  refine goA ?_
  refine zaq [1, 2] 15 rfl rfl (by kernel_rfl) ?_
  refine goE ?_
  have s29 := fun (xb a : Nat) (M : List Eng.Item) (w1 : World) (hw1 : Hp w none' M w1) (ha : own 37 1 (some (a, 3)) 3 [.slice ka x.keys.length kc, .slice (some ⟨xb, 0, none⟩) 1 1, .slice ka2 y.keys.length kc2] ∈ M) (hx : own 9 1 (some (xb, 1)) 1 [kV key] ∈ M) => qp5 (sb := a) (xb := xb) (key := key) (c1 := kc) (c2 := kc2) rfl rfl (by omega) w1 (zee (hw1.item _ ha).1) (rx.k.keep hw1) (Rd.mk (zee (hw1.item _ hx).1)) (ry.k.keep hw1)
  have s35 := fun (a : Nat) (M : List Eng.Item) (w1 : World) (hw1 : Hp w none' M w1) (ha : own 99 1 (some (a, 2)) 2 [.slice da x.kids.length dc, .slice da2 y.kids.length dc2] ∈ M) => qp2 (sb := a) (c1 := dc) (c2 := dc2) rfl rfl (by omega) w1 (zee (hw1.item _ ha).1) (rx.d.keep hw1) (ry.d.keep hw1)
  refine zxz (n' := 2) (listed' := #[true, true, true, true, true, true, true, true, true, true, true, true, true, true, false, false]) (fun y' : Option (Nat × Nat) × Option (Nat × Nat) => [(6, .pointer (some ⟨b6, 0, none⟩)), (29, slV y'.1 (x.keys ++ key :: y.keys).length), (35, slV y'.2 (x.kids ++ y.kids).length)]) (fun y' => [own 9 1 y'.1 (x.keys ++ key :: y.keys).length ((x.keys ++ key :: y.keys).map kV), own 3 1 y'.2 (x.kids ++ y.kids).length ((x.kids ++ y.kids).map iV), pt b6 (.cells #[.bool false, .slice none 0 0, .slice none 0 0, .slice none 0 0] 101 (0, 0)), pt b4 (.cells #[.bool y.leaf, .slice ka2 y.keys.length kc2, .slice va2 y.vals.length vc2, .slice da2 y.kids.length dc2] 101 (0, 0)), pt b3 (.cells #[.bool false, .slice ka x.keys.length kc, .slice va x.vals.length vc, .slice da x.kids.length dc] 101 (0, 0))]) ?_ (fun hk => ?_)
  rotate_left
  ·refine zsl 3 12 ⟨by kernel_rfl, by decide, by decide⟩ rfl rfl rfl rfl (znk (v := kV key) rfl rfl rfl rfl rfl) (qce (v := .slice da x.kids.length dc) (u := .slice da2 y.kids.length dc2) rfl rfl rfl rfl rfl rfl rfl) (fun _ _ h => goH h) (fun _ _ h => goH h) (fun ⟨xb, _⟩ => ?_) (fun ⟨cb, _⟩ => ?_)
   ·refine qjf 6 7 12 13 (A := [own 9 1 (some (xb, 1)) 1 [kV key]]) (B := []) (A' := fun o : { o : Option (Nat × Nat) // True } => [own 9 1 o.1 (x.keys ++ key :: y.keys).length ((x.keys ++ key :: y.keys).map kV)]) (B' := fun o : { o : Option (Nat × Nat) // True } => [own 3 1 o.1 (x.kids ++ y.kids).length ((x.kids ++ y.kids).map iV)]) (by kernel_rfl) rfl rfl rfl rfl rfl rfl rfl rfl rfl rfl rfl rfl rfl (fun _ h => h.sub (.cons _ (.refl _))) (fun l' m' ext => qnr (ext 23 _ rfl) (ext 25 _ rfl) (ext 27 _ rfl) (by kernel_rfl) rfl rfl rfl rfl rfl) (fun a l' m' ext hd => zza (fun _ => .cons_cons _ (.cons _ (.cons _ (.refl _)))) (qbj hd (by kernel_rfl) (by kernel_rfl) (fun w1 hw1 => s29 xb a.1 _ w1 hw1 (.tail _ (.head _)) (.head _)))) (fun l' m' ext => qce (ext 31 _ rfl) (ext 33 _ rfl) (by kernel_rfl) rfl rfl rfl rfl) (fun a l' m' ext hd => zza (fun _ => .cons_cons _ (.cons _ (.refl _))) (qbj hd (by kernel_rfl) (by kernel_rfl) (fun w1 hw1 => s35 a.1 _ w1 hw1 (.head _)))) fun ⟨o1, _⟩ ⟨o2, _⟩ => ?_
    exact hk (o1, o2) _ ⟨rfl, rfl, rfl, trivial⟩
   ·refine zau 3 ⟨by kernel_rfl, by decide⟩ rfl rfl (znk (v := kV key) rfl rfl rfl rfl rfl) (fun _ _ h => goH h) fun ⟨xb, _⟩ => ?_
    refine zau 6 ⟨by kernel_rfl, by decide⟩ rfl rfl (qnr (v := .slice ka x.keys.length kc) (u := .slice (some ⟨xb, 0, none⟩) 1 1) (t := .slice ka2 y.keys.length kc2) rfl rfl rfl rfl rfl rfl rfl rfl rfl) (fun _ _ h => goH h) fun ⟨ab, _⟩ => ?_
    refine zau 7 ⟨by kernel_rfl, by decide⟩ rfl rfl (qbj rfl rfl (by kernel_rfl) (fun w1 hw1 => s29 xb ab _ w1 hw1 (.head _) (.tail _ (.head _)))) (fun _ _ h => goH h) fun ⟨o1, _⟩ => ?_
    refine zau 13 ⟨by kernel_rfl, by decide⟩ rfl rfl (qbj rfl rfl (by kernel_rfl) (fun w1 hw1 => s35 cb _ w1 hw1 (.tail _ (.tail _ (.tail _ (.head _)))))) (fun _ _ h => goH h) fun ⟨o2, _⟩ => ?_
    refine ze9 [1, 0, 5, 6, 7] rfl rfl ?_
    exact hk (o1, o2) _ ⟨rfl, rfl, rfl, trivial⟩
  ·intro ⟨o1, o2⟩
   simp only
   refine qka (fun w hw => And.intro (zav (hw.item (own 9 1 o1 (x.keys ++ key :: y.keys).length ((x.keys ++ key :: y.keys).map kV)) mm).1).1 (zav (hw.item (own 3 1 o2 (x.kids ++ y.kids).length ((x.kids ++ y.kids).map iV)) mm).1).1) fun ⟨f1, f2⟩ => ?_
   rw [f1, f2]
   refine goE ?_
   refine ze9 [2, 0, 1, 3, 4] rfl rfl ?_
   refine zdk ⟨by kernel_rfl, by kernel_rfl⟩ rfl rfl (zai (cs' := #[.bool false, .slice (slA o1) (x.keys ++ key :: y.keys).length (slC o1), .slice none 0 0, .slice (slA o2) (x.kids ++ y.kids).length (slC o2)]) rfl rfl rfl rfl rfl rfl) fun _ => ?_
   refine goA ?_
   refine zb3 (m' := [own 9 1 o1 (x.keys ++ key :: y.keys).length ((x.keys ++ key :: y.keys).map kV), own 9 1 none 0 [], own 3 1 o2 (x.kids ++ y.kids).length ((x.kids ++ y.kids).map iV), pt b6 (.cells #[.bool false, .slice (slA o1) (x.keys ++ key :: y.keys).length (slC o1), .slice none 0 0, .slice (slA o2) (x.kids ++ y.kids).length (slC o2)] 101 (0, 0))]) (fun w hw => (zd5 9 1 hw).pick [2, 0, 3, 1] rfl rfl) ?_
   exact zbw ⟨o1, none, o2⟩ rfl ⟨_, rfl, zas rfl (.tail _ (.tail _ (.tail _ (.head _))))⟩ (by simp only [ndO, iNd]; rw [f1, f2]; rfl) trivial (.cons_cons _ (.cons_cons _ (.cons_cons _ (List.nil_sublist _)))) (zmi _ _)
end Go.Proofs.YtkkfifhaobjicaaGreatDoor
