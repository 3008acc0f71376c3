/- tree: put. Own work; no condition. -/
/- slices.Grow and Concat at strings and ints. Printed by wip/bench/sli.py. Own work; no condition. -/
import Derived.Test.YtkkfifhaobjicaaGreatDoorHb39
import Derived.Test.YtkkfifhaobjicaaGreatDoorHb38
namespace Go.Proofs.YtkkfifhaobjicaaGreatDoor
open Go.RowKit Go.Eng Go.Eng.Bm Go.Eng.Tr
set_option maxRecDepth 100000
set_option maxHeartbeats 40000000
theorem zfk {s : Sh} {N : Nat} {g : Sg} {at_ : Int} {n : Nd} (hl : zen s N g at_ = .ok n) : zfs s n ∧ ∃ i : Nat, at_ = (i : Int) ∧ 1 ≤ i ∧ i < N := by
  unfold zen at hl
  split at hl
  · rename_i hc
    split at hl
    · rename_i ht; cases hl
      exact ⟨(qkw ht).1, at_.toNat, by omega, by omega, by omega⟩
    · cases hl
  · cases hl
theorem ziz {s : Sh} (hs : ShB s) {n : Nd} (h : zfs s n) : NdB n ∧ n.keys.length ≤ 1000 ∧ n.vals.length ≤ 1000 ∧ n.kids.length ≤ 1000 := by
  have h1 := hs.k1
  have h2 := hs.k2
  have h3 := hs.v2
  have e1 : s.cap ≤ 508 := Nat.div_le_self _ _
  have e2 : s.fan ≤ 508 + s.kw := Nat.div_le_self _ _
  have hk : ∀ k ∈ n.keys, k.length ≤ 1000000 := fun k hk => by rw [h.wide k hk]; omega
  cases hl : n.leaf with
  | true =>
    obtain ⟨a1, a2, a3, a4⟩ := h.leaf hl
    rw [a1]
    refine ⟨⟨by omega, by omega, by rw [a1]; decide, hk, fun k hk => by rw [a3 k hk]; omega⟩, by omega, by omega, by simp⟩
  | false =>
    obtain ⟨a1, a2, a3, a4, a5⟩ := h.inner hl
    rw [a2]
    refine ⟨⟨by omega, by rw [a2]; decide, by omega, hk, fun k hk => by rw [a2] at hk; cases hk⟩, by omega, by simp, by omega⟩
def plO (o : Po) : Pl := ⟨(slA o.k, slC o.k), (slA o.v, slC o.v), (slA o.d, slC o.d)⟩
theorem zp2 {w : World} {n : Nd} {o : Po} (hi : ∀ it ∈ ndI n o, it.prop w) : .agg (ndO n o) = ndV n (plO o) ∧ NdR w n (plO o) := by
  have hk := hi (own 9 1 o.k n.keys.length (n.keys.map kV)) (by simp [ndI])
  have hv := hi (own 9 1 o.v n.vals.length (n.vals.map kV)) (by simp [ndI])
  have hd := hi (own 3 1 o.d n.kids.length (n.kids.map iV)) (by simp [ndI])
  refine ⟨?_, zbn hk, zbn hv, zbn hd⟩
  unfold ndO ndV plO
  rw [(zav hk).1, (zav hv).1, (zav hd).1]
theorem zc7 {w w0 : World} {F : Nat → Prop} {m : List Eng.Item} {n : Nd} {o : Po} (hw : Hp w0 F m w) (hk : own 9 1 o.k n.keys.length (n.keys.map kV) ∈ m) (hv : own 9 1 o.v n.vals.length (n.vals.map kV) ∈ m) (hd : own 3 1 o.d n.kids.length (n.kids.map iV) ∈ m) : ∀ it ∈ ndI n o, it.prop w := by
  intro it hm
  rcases hm with _ | ⟨_, _ | ⟨_, _ | ⟨_, hm⟩⟩⟩
  · exact (hw.item _ hk).1
  · exact (hw.item _ hv).1
  · exact (hw.item _ hd).1
  · cases hm
theorem zlh {s : Sh} {n : Nd} {o : Po} (hm : zfs s n) (hb : n.keys.length ≤ 1000) (k : K) (w : World) (hi : ∀ it ∈ ndI n o, it.prop w) : Pu Tryz.prog 38 #[.agg (ndO n o), kV k] w (.tuple #[.int .i64 (lb n.keys k : Nat), .bool (fd n.keys k)]) := by
  rw [(zp2 hi).1]
  exact zru n (plO o) hm.sorted (by omega) k w (zp2 hi).2.k
theorem znt {s : Sh} {n : Nd} {o : Po} (hm : zfs s n) (hb : n.keys.length ≤ 1000) (k : K) (w : World) (hi : ∀ it ∈ ndI n o, it.prop w) : Pu Tryz.prog 62 #[.agg (ndO n o), kV k] w (.int .i64 (dn n.keys k : Nat)) := by
  rw [(zp2 hi).1]
  exact qca n (plO o) hm.sorted (by omega) k w (zp2 hi).2.k
theorem qpy (b c n : Nat) : slV (some (b, c)) n = .slice (some ⟨b, 0, none⟩) n c := rfl
theorem qgm {α β : Type} (f : α → β) (l : List α) (i : Nat) (x : α) : ins (l.map f) i (f x) = (ins l i x).map f := by
  unfold ins; rw [List.map_append, List.map_cons, List.map_take, List.map_drop]
theorem zkq (l : List K) : zbz (l.map kV) = true := za4.2 fun v hv => by obtain ⟨k, -, rfl⟩ := List.mem_map.1 hv; rfl
theorem qdj (l : List Nat) : zbz (l.map iV) = true := za4.2 fun v hv => by obtain ⟨k, -, rfl⟩ := List.mem_map.1 hv; rfl
theorem zhn (e : TypeId) (o : Option (Nat × Nat)) (n : Nat) (xs : List Value) (vb : Nat) (x : Value) : ∀ it ∈ [own e 1 o n xs, own e 1 (some (vb, 1)) 1 [x]], it.Stable none' := by simp [zab]
theorem zoo {s : Sh} {N : Nat} {key val : K} {d : Nat} {g g' : Sg} {at_ : Int} {k : K} {q : Nat} (hl : Tr.putF s N key val (d + 1) g at_ = .ok ((k, q), g')) : ∃ n, zen s N g at_ = .ok n ∧
    ((n.leaf = true ∧ zcd s N g at_.toNat (zw5 n key val) = .ok ((k, q), g')) ∨
     (n.leaf = false ∧ ∃ k1 q1 g1, Tr.putF s N key val d g (n.kids.getD (dn n.keys key) 0 : Nat) = .ok ((k1, q1), g1) ∧ ((q1 = 0 ∧ k = k1 ∧ q = 0 ∧ g' = g1) ∨ (q1 ≠ 0 ∧ zcd s N g1 at_.toNat (iNd (ins n.keys (dn n.keys key) k1) (ins n.kids (dn n.keys key + 1) q1)) = .ok ((k, q), g'))))) := by
  rw [Tr.putF] at hl
  obtain ⟨n, h1, h2⟩ := zbt hl
  refine ⟨n, h1, ?_⟩
  cases hlf : n.leaf with
  | true =>
    simp only [hlf, if_true] at h2
    exact .inl ⟨rfl, h2⟩
  | false =>
    simp only [hlf, Bool.false_eq_true, if_false] at h2
    obtain ⟨⟨⟨k1, q1⟩, g1⟩, h3, h4⟩ := zbt h2
    refine .inr ⟨rfl, k1, q1, g1, h3, ?_⟩
    by_cases hq : q1 = 0
    · simp only [hq, if_true] at h4
      cases h4
      exact .inl ⟨hq, rfl, rfl, rfl⟩
    · simp only [hq, if_false] at h4
      exact .inr ⟨hq, h4⟩
theorem NdB.vset {n : Nd} (h : NdB n) (i : Nat) {val : K} (hv : val.length ≤ 1000000) (kd : List Nat) (hk : kd.length ≤ 100000) (lf : Bool) : NdB ⟨lf, n.keys, n.vals.set i val, kd⟩ :=
  ⟨h.k, by show (n.vals.set i val).length ≤ _; rw [List.length_set]; exact h.v, hk, h.kl, fun k hk => by
    rcases List.mem_or_eq_of_mem_set hk with hk | rfl
    · exact h.vl k hk
    · exact hv⟩
theorem NdB.mk' {lf : Bool} {ks vs : List K} {kd : List Nat} (h1 : ks.length ≤ 100000) (h2 : vs.length ≤ 100000) (h3 : kd.length ≤ 100000) (h4 : ∀ k ∈ ks, k.length ≤ 1000000) (h5 : ∀ k ∈ vs, k.length ≤ 1000000) : NdB ⟨lf, ks, vs, kd⟩ := ⟨h1, h2, h3, h4, h5⟩
theorem qda {l : List K} {i : Nat} {x : K} (h : ∀ k ∈ l, k.length ≤ 1000000) (hx : x.length ≤ 1000000) : ∀ k ∈ ins l i x, k.length ≤ 1000000 := fun k hk => by
  rcases zfx hk with rfl | hk
  · exact hx
  · exact h k hk
theorem zp7 {s : Sh} {N : Nat} {g g' : Sg} {at_ : Nat} {n : Nd} {k : K} {q : Nat} (hl : zcd s N g at_ n = .ok ((k, q), g')) (hb : ∀ x ∈ n.keys, x.length ≤ 1000000) : k.length ≤ 1000000 := by
  rcases zrd hl with ⟨-, rfl, -, -⟩ | ⟨-, -, -, -, -, -, -, rfl⟩ | ⟨-, -, -, -, -, -, -, rfl⟩
  · exact Nat.zero_le _
  · cases hd : n.keys.drop (n.keys.length / 2) with
    | nil => exact Nat.zero_le _
    | cons x l => exact hb x (List.mem_of_mem_drop (i := n.keys.length / 2) (by rw [hd]; exact .head _))
  · rw [List.getD_eq_getElem?_getD]
    cases hg : n.keys[n.kids.length / 2 - 1]? with
    | none => exact Nat.zero_le _
    | some x => exact hb x (List.mem_of_getElem? hg)
theorem qa4 {n : Nd} {key val : K} : ∀ x ∈ (zw5 n key val).keys, x = key ∨ x ∈ n.keys := fun x hx => by
  unfold zw5 at hx
  split at hx
  · exact .inr hx
  · exact zfx hx
theorem zsu {s : Sh} (hs : ShB s) {N : Nat} {key val : K} (hkl : key.length ≤ 1000000) : ∀ (d : Nat) (g : Sg) (at_ : Int) {k : K} {q : Nat} {g' : Sg}, Tr.putF s N key val d g at_ = .ok ((k, q), g') → k.length ≤ 1000000
  | 0, _, _, _, _, _, hl => by rw [Tr.putF] at hl; cases hl
  | d + 1, g, at_, k, q, g', hl => by
    obtain ⟨n, h1, hcase⟩ := zoo hl
    obtain ⟨hmay, -⟩ := zfk h1
    have hb := (ziz hs hmay).1.kl
    rcases hcase with ⟨-, hsp⟩ | ⟨-, k1, q1, g1, hp, hcase⟩
    · refine zp7 hsp fun x hx => ?_
      rcases qa4 x hx with rfl | hx
      · exact hkl
      · exact hb x hx
    · have hk1 := zsu hs hkl d g _ hp
      rcases hcase with ⟨-, rfl, -, -⟩ | ⟨-, hsp⟩
      · exact hk1
      · refine zp7 hsp fun x hx => ?_
        rcases zfx hx with rfl | hx
        · exact hk1
        · exact hb x hx
theorem qln (c : Tc) (root : Int) (key val : K) (hkl : key.length ≤ 1000000) (hvl : val.length ≤ 1000000) : ∀ (d : Nat) (g : Sg) (s : Pg) (at_ : Int) {k : K} {q : Nat} {g' : Sg}, Tok c g s → d ≤ 16 → Tr.putF c.sh c.N key val d g at_ = .ok ((k, q), g') → ∀ w : World, (∀ it ∈ [tmI c root s], za2 it w) →
    Ct Tryz.prog 43 #[.pointer (some ⟨c.t, 0, none⟩), .int .i64 at_, .int .i64 (d : Nat), kV key, kV val] w (zap [tmI c root s]) (fun _ : Pg => .agg #[kV k, .int .i64 (q : Int)]) (fun s' => Tok c g' s') (fun s' => [tmI c root s']) := by
  intro d
  induction d with
  | zero =>
    intro g s at_ k q g' _ _ hl
    rw [Tr.putF] at hl; cases hl
  | succ d ih =>
    intro g s at_ k q g' h hd hl w hw
    obtain ⟨n, h1, hcase⟩ := zoo hl
    obtain ⟨hmay, i0, hi0, hi1, hi2⟩ := zfk h1
    subst hi0
    rw [Int.toNat_natCast] at hcase
    obtain ⟨hnb, hb1, hb2, hb3⟩ := ziz h.sh hmay
    refine zbd [_, _, _, _, _] _ Tryz.func43 rfl rfl hw (.cons (fun _ h => nomatch h) .nil) ?_
    simp only [zaa, Nat.reduceAdd]
    refine goA ?_
    refine zan rfl rfl fun b10 hb10 => ?_
    refine goA ?_
    refine zae rfl (zag rfl (by kernel_rfl) rfl (fun w1 hw1 => zlq (by omega) _ w1)) fun _ => ?_
    refine goA ?_
    refine za1 [1, 0] rfl rfl ?_
    refine zae rfl (zba (pre := [tmI c root s]) rfl (by kernel_rfl) rfl (zah c root s) (fun w1 hw1 hh1 ha1 => zj4 h root i0 h1 w1 hh1)) fun ⟨⟨s1, o⟩, hs1⟩ => ?_
    have hs1 : Tok c g s1 := hs1
    dsimp only
    refine goA ?_
    refine zan rfl rfl fun b11 hb11 => ?_
    refine za0 rfl (zai (cs' := ndO n o) rfl rfl rfl rfl (zcx n o) rfl) fun _ => ?_
    unfold ndI
    simp only [List.cons_append, List.nil_append]
    rcases hcase with ⟨hlf, hsp⟩ | ⟨hlf, k1, q1, g1, hp, hcase⟩
    · obtain ⟨hkd, hkv, -, -⟩ := hmay.leaf hlf
      have hlb := zvj n.keys key
      obtain ⟨lf, ks, vs, kd⟩ := n
      simp only at hlf hkd hkv hlb hb1 hb2 hsp ⊢
      subst hlf
      subst hkd
      unfold ndO
      refine goA ?_
      refine zae rfl (zag rfl (by kernel_rfl) rfl (fun w1 hw1 => zlh hmay hb1 key w1 (zc7 hw1 mm mm mm))) fun _ => ?_
      simp only
      obtain ⟨f, hf⟩ : ∃ f, fd ks key = f := ⟨_, rfl⟩
      unfold zw5 at hsp
      simp only at hsp
      rw [hf] at hsp ⊢
      obtain ⟨ok, ov, od⟩ := o
      simp only
      cases f with
      | true =>
        rw [if_pos rfl] at hsp
        have hlt : lb ks key < vs.length := by rw [← hkv]; exact (List.getElem?_eq_some_iff.1 (ziq.1 hf)).1
        refine zea (fun w hw => zbq (hw.item (own 9 1 ov vs.length (vs.map kV)) mm).1 (by omega)) fun ⟨vb, vc, e⟩ => ?_
        subst e
        refine goA ?_
        refine za0 rfl (zak (zdl _ _ _ _ _) (zts rfl rfl rfl rfl rfl rfl (by omega))) fun _ => ?_
        rw [show (vs.map kV).set (0 + lb ks key) (kV val) = (vs.set (lb ks key) val).map kV by rw [Nat.zero_add, List.map_set]]
        have hvl' : vs.length = (vs.set (lb ks key) val).length := List.length_set.symm
        rw [hvl']
        refine goA ?_
        refine za1 [2, 3, 0, 4, 1, 5] rfl rfl ?_
        refine zae rfl (zba (pre := tmI c root s1 :: ndI ⟨true, ks, vs.set (lb ks key) val, []⟩ ⟨ok, some (vb, vc), od⟩) rfl (by kernel_rfl) rfl (zcj _ _ _ _ _) (fun w1 hw1 hh1 ha1 => zk7 hs1 root i0 ⟨true, ks, vs.set (lb ks key) val, []⟩ ⟨ok, some (vb, vc), od⟩ (hnb.vset _ hvl [] (by decide) true) hsp w1 hh1 ha1)) fun ⟨s2, h2⟩ => ?_
        refine goA ?_
        refine za0 rfl (zak (zc9 _ _ _ _) (zai rfl rfl rfl rfl rfl rfl)) fun _ => ?_
        refine goA ?_
        exact zbw s2 rfl ⟨_, rfl, zas rfl (.head _)⟩ rfl h2 (.cons _ (.cons_cons _ (List.nil_sublist _))) (zah _ _ _)
      | false =>
        rw [if_neg Bool.false_ne_true] at hsp
        have hA := fun (vb : Nat) (w1 : World) => zhp ok ks.length (lb ks key) (ks.map kV) (kV key) vb (zkq ks) rfl hlb (by omega) w1
        have hB := fun (vb : Nat) (w1 : World) => zhp ov vs.length (lb ks key) (vs.map kV) (kV val) vb (zkq vs) rfl (by omega) (by omega) w1
        refine goA ?_
        refine zde [2, 3, 0, 1, 4, 5] rfl rfl ?_
        refine zaq [2, 3, 4, 5] 13 rfl rfl (by kernel_rfl) ?_
        refine goE ?_
        refine qdu 4 5 10 11 12 (A := [own 9 1 ok ks.length (ks.map kV)]) (B := [own 9 1 ov vs.length (vs.map kV)]) (A' := fun o : { o : Option (Nat × Nat) // True } => [own 9 1 o.1 (ks.length + 1) (ins (ks.map kV) (lb ks key) (kV key))]) (B' := fun o : { o : Option (Nat × Nat) // True } => [own 9 1 o.1 (vs.length + 1) (ins (vs.map kV) (lb ks key) (kV val))]) (by kernel_rfl) rfl rfl rfl rfl (by kernel_rfl) rfl rfl rfl rfl rfl rfl rfl rfl rfl rfl rfl rfl rfl rfl (fun _ h => h) (fun l' m' ext => znk (ext 39 _ rfl) (by kernel_rfl) rfl rfl rfl) (fun a l' m' ext hd => qi8 (pre := [own 9 1 ok ks.length (ks.map kV), own 9 1 (some (a.1, 1)) 1 [kV key]]) (ext 37 _ rfl) (ext 38 _ rfl) hd (by kernel_rfl) (by kernel_rfl) (zhn _ _ _ _ _ _) (fun w1 hw1 hh1 ha1 => hA a.1 w1 hh1 ha1)) (fun l' m' ext => znk (ext 45 _ rfl) (by kernel_rfl) rfl rfl rfl) (fun a l' m' ext hd => qi8 (pre := [own 9 1 ov vs.length (vs.map kV), own 9 1 (some (a.1, 1)) 1 [kV val]]) (ext 43 _ rfl) (ext 44 _ rfl) hd (by kernel_rfl) (by kernel_rfl) (zhn _ _ _ _ _ _) (fun w1 hw1 hh1 ha1 => hB a.1 w1 hh1 ha1)) fun ⟨ok', _⟩ ⟨ov', _⟩ => ?_
        refine ze9 [2, 0, 1, 3, 4, 5] rfl rfl ?_
        refine zn0 13 rfl rfl rfl rfl rfl rfl rfl rfl rfl rfl rfl (zc0 _ _) (zdf _ _) (zc0 _ _) (zdf _ _) (by kernel_rfl) (by kernel_rfl) (by show (1 : Nat) < 4; decide) (by show (2 : Nat) < 4; decide) ?_
        simp only [qgm]
        rw [← zfv ks (lb ks key) key, ← zfv vs (lb ks key) val]
        refine goA ?_
        refine za1 [3, 1, 2, 4, 0, 5] rfl rfl ?_
        refine zae rfl (zba (pre := tmI c root s1 :: ndI ⟨true, ins ks (lb ks key) key, ins vs (lb ks key) val, []⟩ ⟨ok', ov', od⟩) rfl (by kernel_rfl) rfl (zcj _ _ _ _ _) (fun w1 hw1 hh1 ha1 => zk7 hs1 root i0 ⟨true, ins ks (lb ks key) key, ins vs (lb ks key) val, []⟩ ⟨ok', ov', od⟩ (NdB.mk' (by rw [zfv]; omega) (by rw [zfv]; omega) (by decide) (qda hnb.kl hkl) (qda hnb.vl hvl)) hsp w1 hh1 ha1)) fun ⟨s3, h3⟩ => ?_
        refine goA ?_
        refine za0 rfl (zak (zc9 _ _ _ _) (zai rfl rfl rfl rfl rfl rfl)) fun _ => ?_
        refine goA ?_
        exact zbw s3 rfl ⟨_, rfl, zas rfl (.head _)⟩ rfl h3 (.cons _ (.cons_cons _ (List.nil_sublist _))) (zah _ _ _)
    · obtain ⟨hkr, hvs, hkl1, hk1, -⟩ := hmay.inner hlf
      have hk1b : k1.length ≤ 1000000 := zsu h.sh hkl d g _ hp
      have hdn := znq n.keys key
      obtain ⟨lf, ks, vs, kd⟩ := n
      simp only at hlf hvs hkl1 hk1 hdn hb1 hb3 hp hcase ⊢
      subst hlf
      subst hvs
      obtain ⟨ok, ov, od⟩ := o
      simp only
      refine zea (fun w hw => zbq (hw.item (own 3 1 od kd.length (kd.map iV)) mm).1 (by omega)) fun ⟨db, dc, e⟩ => ?_
      subst e
      obtain ⟨kq, hkq⟩ : ∃ x, kd[dn ks key]? = some x := ⟨_, List.getElem?_eq_getElem (by omega)⟩
      rw [show kd.getD (dn ks key) 0 = kq by rw [List.getD_eq_getElem?_getD, hkq]; rfl] at hp
      unfold ndO
      refine goA ?_
      refine zae rfl (zag rfl (by kernel_rfl) rfl (fun w1 hw1 => znt hmay hb1 key w1 (zc7 (o := ⟨ok, ov, some (db, dc)⟩) hw1 mm mm mm))) fun _ => ?_
      simp only
      obtain ⟨i, hi⟩ : ∃ i, dn ks key = i := ⟨_, rfl⟩
      rw [hi] at hkq hcase hdn ⊢
      refine goA ?_
      refine l_w rfl (zaz (v := .int .i64 (kq : Int)) rfl rfl (fun w' hw' => zbo (hw'.item (own 3 1 (some (db, dc)) kd.length (kd.map iV)) mm).1 _ _ (by simp only [Nat.zero_add]; rw [List.getElem?_map, hkq]; rfl))) ?_
      refine goA ?_
      rw [show d + 1 - 1 = d by omega]
      refine za1 [1, 0, 2, 3, 4, 5] rfl rfl ?_
      refine zae rfl (zba (pre := [tmI c root s1]) rfl (by kernel_rfl) rfl (zah c root s1) (fun w1 hw1 hh1 ha1 => ih g s1 (kq : Nat) hs1 (by omega) hp w1 hh1)) fun ⟨s2, hs2⟩ => ?_
      have hs2 : Tok c g1 s2 := hs2
      dsimp only
      refine goA ?_
      refine zan rfl rfl fun b15 hb15 => ?_
      refine za0 rfl (zai rfl rfl rfl rfl rfl rfl) fun _ => ?_
      refine goA ?_
      rcases hcase with ⟨rfl, rfl, rfl, rfl⟩ | ⟨hq, hsp⟩
      · refine goA ?_
        refine za0 rfl (zak (zr2 _ _ _ _ _ _ _ _) (zai rfl rfl rfl rfl rfl rfl)) fun _ => ?_
        refine goA ?_
        exact zbw s2 rfl ⟨_, rfl, zas rfl (.head _)⟩ rfl hs2 (.cons _ (.cons _ (.cons_cons _ (List.nil_sublist _)))) (zah _ _ _)
      · have hA := fun (vb : Nat) (w1 : World) => zhp ok ks.length i (ks.map kV) (kV k1) vb (zkq ks) rfl (by omega) (by omega) w1
        have hB := fun (vb : Nat) (w1 : World) => zsh (some (db, dc)) kd.length (i + 1) (kd.map iV) (iV q1) vb (qdj kd) rfl (by omega) (by omega) w1
        refine goA ?_
        simp only [List.cons_append, List.nil_append]
        refine zde [3, 5, 2, 0, 1, 4, 6] rfl rfl ?_
        refine zaq [2, 3, 4, 5, 6] 16 rfl rfl (by kernel_rfl) ?_
        refine goE ?_
        refine qdu 5 6 13 14 15 (A := [own 9 1 ok ks.length (ks.map kV)]) (B := [own 3 1 (some (db, dc)) kd.length (kd.map iV)]) (A' := fun o : { o : Option (Nat × Nat) // True } => [own 9 1 o.1 (ks.length + 1) (ins (ks.map kV) i (kV k1))]) (B' := fun o : { o : Option (Nat × Nat) // True } => [own 3 1 o.1 (kd.length + 1) (ins (kd.map iV) (i + 1) (iV q1))]) (by kernel_rfl) rfl rfl rfl rfl (by kernel_rfl) rfl rfl rfl rfl rfl rfl rfl rfl rfl rfl rfl rfl rfl rfl (fun _ h => h) (fun l' m' ext => znk (ext 76 _ rfl) (by kernel_rfl) rfl rfl rfl) (fun a l' m' ext hd => qi8 (pre := [own 9 1 ok ks.length (ks.map kV), own 9 1 (some (a.1, 1)) 1 [kV k1]]) (ext 73 _ rfl) (ext 74 _ rfl) hd (by kernel_rfl) (by kernel_rfl) (zhn _ _ _ _ _ _) (fun w1 hw1 hh1 ha1 => hA a.1 w1 hh1 ha1)) (fun l' m' ext => znk (ext 84 _ rfl) (by kernel_rfl) rfl rfl rfl) (fun a l' m' ext hd => qi8 (pre := [own 3 1 (some (db, dc)) kd.length (kd.map iV), own 3 1 (some (a.1, 1)) 1 [iV q1]]) (ext 80 _ rfl) (ext 82 _ rfl) hd (by kernel_rfl) (by kernel_rfl) (zhn _ _ _ _ _ _) (fun w1 hw1 hh1 ha1 => hB a.1 w1 hh1 ha1)) fun ⟨ok', _⟩ ⟨od', _⟩ => ?_
        refine ze9 [2, 0, 1, 3, 4, 5, 6] rfl rfl ?_
        refine zn0 16 rfl rfl rfl rfl rfl rfl rfl rfl rfl rfl rfl (zc0 _ _) (zdf _ _) (zc0 _ _) (zdf _ _) (by kernel_rfl) (by kernel_rfl) (by show (1 : Nat) < 4; decide) (by show (3 : Nat) < 4; decide) ?_
        simp only [qgm]
        rw [← zfv ks i k1, ← zfv kd (i + 1) q1]
        refine goA ?_
        refine za1 [4, 1, 5, 2, 0, 3, 6] rfl rfl ?_
        refine zae rfl (zba (pre := tmI c root s2 :: ndI ⟨false, ins ks i k1, [], ins kd (i + 1) q1⟩ ⟨ok', ov, od'⟩) rfl (by kernel_rfl) rfl (zcj _ _ _ _ _) (fun w1 hw1 hh1 ha1 => zk7 hs2 root i0 ⟨false, ins ks i k1, [], ins kd (i + 1) q1⟩ ⟨ok', ov, od'⟩ (NdB.mk' (by rw [zfv]; omega) (by decide) (by rw [zfv]; omega) (qda hnb.kl hk1b) (fun _ h => nomatch h)) hsp w1 hh1 ha1)) fun ⟨s3, h3⟩ => ?_
        refine goA ?_
        refine za0 rfl (zak (zdl _ _ _ _ _) (zai rfl rfl rfl rfl rfl rfl)) fun _ => ?_
        refine goA ?_
        exact zbw s3 rfl ⟨_, rfl, zas rfl (.head _)⟩ rfl h3 (.cons _ (.cons_cons _ (List.nil_sublist _))) (zah _ _ _)
end Go.Proofs.YtkkfifhaobjicaaGreatDoor
namespace Go.Proofs.YtkkfifhaobjicaaGreatDoor
open Go.RowKit Go.Eng Go.Eng.Tr
set_option maxRecDepth 100000
set_option maxHeartbeats 40000000
theorem zwx (n : Nat) (hn : n ≤ 1000000) (w : World) : Ct Tryz.prog 167 #[.slice none 0 0, .int .i64 (n : Nat)] w none' (fun o : Option (Nat × Nat) => slV o 0) (fun _ => True) (fun o => [own 9 1 o 0 []]) := by
  refine zfo [_, _] Tryz.func167 rfl rfl ?_
  simp only [zaa, Nat.reduceAdd]
  refine goA ?_
  by_cases h0 : n = 0
  · subst h0
    refine goA ?_
    refine zb3 (fun w hw => zd5 9 1 hw) ?_
    exact zbw none rfl rfl rfl trivial (.refl _) (by simp [zab])
  · refine goA ?_
    refine za0 rfl (zz9 (olds := []) (z := .string ⟨#[]⟩) rfl rfl rfl rfl rfl rfl rfl (by omega) (by omega) (by omega) rfl (fun _ => rfl) (fun w' hw' => .inl rfl)) fun ⟨⟨b2, c2⟩, hb2, hc2⟩ => ?_
    simp only at hc2 ⊢
    refine ze1 (fun w hw => hw.own0) ?_
    refine goA ?_
    exact zbw (some (b2, c2)) rfl rfl rfl trivial (.refl _) (by simp [zab])
def qf7 (L : List (Option Addr × Nat × List Value)) (i : Nat) : List Value := (L.take i).flatMap fun p => p.2.2
def qmb (p : Option Addr × Nat × List Value) : Value := .slice p.1 p.2.2.length p.2.1
theorem zwf {L : List (Option Addr × Nat × List Value)} {i : Nat} {p : Option Addr × Nat × List Value} (h : L[i]? = some p) : qf7 L (i + 1) = qf7 L i ++ p.2.2 := by
  unfold qf7
  rw [List.take_add_one, h, List.flatMap_append]
  simp
theorem zyr (L : List (Option Addr × Nat × List Value)) (i : Nat) : (qf7 L i).length ≤ (L.flatMap fun p => p.2.2).length := by
  unfold qf7
  conv => rhs; rw [← List.take_append_drop i L, List.flatMap_append, List.length_append]
  omega
theorem zko (sb : Nat) (L : List (Option Addr × Nat × List Value)) (k : Nat) (hk : L.length = k) (hk3 : k ≤ 100) (h1 : ∀ p ∈ L, zbz p.2.2 = true) (hz : (L.flatMap fun p => p.2.2).length ≤ 1000000) (hnil : ∀ p ∈ L, p.1 = none → p.2.2 = []) (w : World) (hs : w.rangeAt sb 0 (L.map qmb)) (hr : ∀ p ∈ L, Rd w p.1 p.2.2) :
    Ct Tryz.prog 142 #[.slice (some ⟨sb, 0, none⟩) k k] w none' (fun o : Option (Nat × Nat) => slV o (L.flatMap fun p => p.2.2).length) (fun _ => True) (fun o => [own 9 1 o (L.flatMap fun p => p.2.2).length (L.flatMap fun p => p.2.2)]) := by
  refine zfo [_] Tryz.func142 rfl rfl ?_
  have hall : qf7 L k = L.flatMap fun p => p.2.2 := by unfold qf7; rw [List.take_of_length_le (by omega)]
  simp only [zaa]
  refine goA ?_
  refine zct (α := Nat) (fun i => [(0, .slice (some ⟨sb, 0, none⟩) k k), (3, .int .i64 ((qf7 L i).length : Nat)), (9, .slice (some ⟨sb, 0, none⟩) k k), (10, .int .i64 (k : Nat)), (11, .int .i64 (i : Nat))]) (fun i => i ≤ k) (fun _ => []) (fun i => k - i) 0 ⟨rfl, rfl, rfl, rfl, rfl, trivial⟩ (Nat.zero_le _) (fun w hw => hw) fun i hi => ?_
  have hci := zyr L i
  by_cases h : i < k
  · obtain ⟨p, hp⟩ : ∃ p, L[i]? = some p := ⟨_, List.getElem?_eq_getElem (by omega)⟩
    have hcs := zwf hp
    have hci2 := zyr L (i + 1)
    rw [hcs, List.length_append] at hci2
    refine goA ?_
    refine l_w rfl (zaz rfl rfl (fun w' hw' => zbg hs (fun h => h) hw' i (qmb p) (by rw [List.getElem?_map, hp]; rfl))) ?_
    unfold qmb
    refine goA ?_
    exact zay (i + 1) ⟨rfl, by rw [hcs, List.length_append]; rfl, rfl, rfl, rfl, trivial⟩ (by omega) (fun w hw => hw) (by first | omega | (simp only; omega))
  · obtain rfl : i = k := by omega
    rw [hall] at hci ⊢
    refine goA ?_
    refine ze5 rfl rfl (by kernel_rfl) rfl (fun w1 hw1 => zwx (L.flatMap fun p => p.2.2).length hz w1) fun x hx => ?_
    refine goA ?_
    refine zct (α := Nat × Option (Nat × Nat)) (fun y => [(6, slV y.2 (qf7 L y.1).length), (25, .slice (some ⟨sb, 0, none⟩) i i), (26, .int .i64 (i : Nat)), (27, .int .i64 (y.1 : Nat))]) (fun y => y.1 ≤ i) (fun y => [own 9 1 y.2 (qf7 L y.1).length (qf7 L y.1)]) (fun y => i - y.1) (0, x) ⟨rfl, rfl, rfl, rfl, trivial⟩ (Nat.zero_le _) (fun w hw => hw) fun ⟨j, o⟩ hj => ?_
    simp only at hj ⊢
    by_cases h2 : j < i
    · obtain ⟨p, hp⟩ : ∃ p, L[j]? = some p := ⟨_, List.getElem?_eq_getElem (by omega)⟩
      have hpm := List.mem_of_getElem? hp
      have hcs := zwf hp
      have hci2 := zyr L (j + 1)
      rw [hcs, List.length_append] at hci2
      refine goA ?_
      refine l_w rfl (zaz rfl rfl (fun w' hw' => zbg hs (fun h => h) hw' j (qmb p) (by rw [List.getElem?_map, hp]; rfl))) ?_
      unfold qmb
      refine goA ?_
      refine za0 rfl (zes (news := p.2.2) rfl rfl rfl rfl rfl rfl (fun e => by rw [hnil p hpm e]; rfl) (h1 p hpm) (by omega) (fun w' hw' => (hr p hpm).keep hw')) fun o' => ?_
      refine goA ?_
      exact zay (j + 1, o') ⟨by rw [hcs, List.length_append]; rfl, rfl, rfl, rfl, trivial⟩ (by first | omega | (simp only; omega)) (fun w hw => by rw [hcs, List.length_append]; exact hw) (by first | omega | (simp only; omega))
    · obtain rfl : j = i := by omega
      rw [hall]
      refine goA ?_
      exact zbw o rfl rfl rfl trivial (.refl _) (by simp [zab])
theorem zyw (n : Nat) (hn : n ≤ 1000000) (w : World) : Ct Tryz.prog 168 #[.slice none 0 0, .int .i64 (n : Nat)] w none' (fun o : Option (Nat × Nat) => slV o 0) (fun _ => True) (fun o => [own 3 1 o 0 []]) := by
  refine zfo [_, _] Tryz.func168 rfl rfl ?_
  simp only [zaa, Nat.reduceAdd]
  refine goA ?_
  by_cases h0 : n = 0
  · subst h0
    refine goA ?_
    refine zb3 (fun w hw => zd5 3 1 hw) ?_
    exact zbw none rfl rfl rfl trivial (.refl _) (by simp [zab])
  · refine goA ?_
    refine za0 rfl (zz9 (olds := []) (z := .int .i64 0) rfl rfl rfl rfl rfl rfl rfl (by omega) (by omega) (by omega) rfl (fun _ => rfl) (fun w' hw' => .inl rfl)) fun ⟨⟨b2, c2⟩, hb2, hc2⟩ => ?_
    simp only at hc2 ⊢
    refine ze1 (fun w hw => hw.own0) ?_
    refine goA ?_
    exact zbw (some (b2, c2)) rfl rfl rfl trivial (.refl _) (by simp [zab])
def qdg (L : List (Option Addr × Nat × List Value)) (i : Nat) : List Value := (L.take i).flatMap fun p => p.2.2
def qmy (p : Option Addr × Nat × List Value) : Value := .slice p.1 p.2.2.length p.2.1
theorem zva {L : List (Option Addr × Nat × List Value)} {i : Nat} {p : Option Addr × Nat × List Value} (h : L[i]? = some p) : qdg L (i + 1) = qdg L i ++ p.2.2 := by
  unfold qdg
  rw [List.take_add_one, h, List.flatMap_append]
  simp
theorem zx2 (L : List (Option Addr × Nat × List Value)) (i : Nat) : (qdg L i).length ≤ (L.flatMap fun p => p.2.2).length := by
  unfold qdg
  conv => rhs; rw [← List.take_append_drop i L, List.flatMap_append, List.length_append]
  omega
theorem ztt (sb : Nat) (L : List (Option Addr × Nat × List Value)) (k : Nat) (hk : L.length = k) (hk3 : k ≤ 100) (h1 : ∀ p ∈ L, zbz p.2.2 = true) (hz : (L.flatMap fun p => p.2.2).length ≤ 1000000) (hnil : ∀ p ∈ L, p.1 = none → p.2.2 = []) (w : World) (hs : w.rangeAt sb 0 (L.map qmy)) (hr : ∀ p ∈ L, Rd w p.1 p.2.2) :
    Ct Tryz.prog 143 #[.slice (some ⟨sb, 0, none⟩) k k] w none' (fun o : Option (Nat × Nat) => slV o (L.flatMap fun p => p.2.2).length) (fun _ => True) (fun o => [own 3 1 o (L.flatMap fun p => p.2.2).length (L.flatMap fun p => p.2.2)]) := by
  refine zfo [_] Tryz.func143 rfl rfl ?_
  have hall : qdg L k = L.flatMap fun p => p.2.2 := by unfold qdg; rw [List.take_of_length_le (by omega)]
  simp only [zaa]
  refine goA ?_
  refine zct (α := Nat) (fun i => [(0, .slice (some ⟨sb, 0, none⟩) k k), (3, .int .i64 ((qdg L i).length : Nat)), (9, .slice (some ⟨sb, 0, none⟩) k k), (10, .int .i64 (k : Nat)), (11, .int .i64 (i : Nat))]) (fun i => i ≤ k) (fun _ => []) (fun i => k - i) 0 ⟨rfl, rfl, rfl, rfl, rfl, trivial⟩ (Nat.zero_le _) (fun w hw => hw) fun i hi => ?_
  have hci := zx2 L i
  by_cases h : i < k
  · obtain ⟨p, hp⟩ : ∃ p, L[i]? = some p := ⟨_, List.getElem?_eq_getElem (by omega)⟩
    have hcs := zva hp
    have hci2 := zx2 L (i + 1)
    rw [hcs, List.length_append] at hci2
    refine goA ?_
    refine l_w rfl (zaz rfl rfl (fun w' hw' => zbg hs (fun h => h) hw' i (qmy p) (by rw [List.getElem?_map, hp]; rfl))) ?_
    unfold qmy
    refine goA ?_
    exact zay (i + 1) ⟨rfl, by rw [hcs, List.length_append]; rfl, rfl, rfl, rfl, trivial⟩ (by omega) (fun w hw => hw) (by first | omega | (simp only; omega))
  · obtain rfl : i = k := by omega
    rw [hall] at hci ⊢
    refine goA ?_
    refine ze5 rfl rfl (by kernel_rfl) rfl (fun w1 hw1 => zyw (L.flatMap fun p => p.2.2).length hz w1) fun x hx => ?_
    refine goA ?_
    refine zct (α := Nat × Option (Nat × Nat)) (fun y => [(6, slV y.2 (qdg L y.1).length), (25, .slice (some ⟨sb, 0, none⟩) i i), (26, .int .i64 (i : Nat)), (27, .int .i64 (y.1 : Nat))]) (fun y => y.1 ≤ i) (fun y => [own 3 1 y.2 (qdg L y.1).length (qdg L y.1)]) (fun y => i - y.1) (0, x) ⟨rfl, rfl, rfl, rfl, trivial⟩ (Nat.zero_le _) (fun w hw => hw) fun ⟨j, o⟩ hj => ?_
    simp only at hj ⊢
    by_cases h2 : j < i
    · obtain ⟨p, hp⟩ : ∃ p, L[j]? = some p := ⟨_, List.getElem?_eq_getElem (by omega)⟩
      have hpm := List.mem_of_getElem? hp
      have hcs := zva hp
      have hci2 := zx2 L (j + 1)
      rw [hcs, List.length_append] at hci2
      refine goA ?_
      refine l_w rfl (zaz rfl rfl (fun w' hw' => zbg hs (fun h => h) hw' j (qmy p) (by rw [List.getElem?_map, hp]; rfl))) ?_
      unfold qmy
      refine goA ?_
      refine za0 rfl (zes (news := p.2.2) rfl rfl rfl rfl rfl rfl (fun e => by rw [hnil p hpm e]; rfl) (h1 p hpm) (by omega) (fun w' hw' => (hr p hpm).keep hw')) fun o' => ?_
      refine goA ?_
      exact zay (j + 1, o') ⟨by rw [hcs, List.length_append]; rfl, rfl, rfl, rfl, trivial⟩ (by first | omega | (simp only; omega)) (fun w hw => by rw [hcs, List.length_append]; exact hw) (by first | omega | (simp only; omega))
    · obtain rfl : j = i := by omega
      rw [hall]
      refine goA ?_
      exact zbw o rfl rfl rfl trivial (.refl _) (by simp [zab])
end Go.Proofs.YtkkfifhaobjicaaGreatDoor
