/- package disk: what is read. -/
/- package disk: what is written, flushed, and lost. -/
import Derived.Test.YtkkfifhaobjicaaGreatDoorHb16
namespace Go.Proofs.YtkkfifhaobjicaaGreatDoor
open Go.RowKit Go.Eng
set_option maxRecDepth 100000
set_option maxHeartbeats 40000000
def rdI (b : Nat) (s : Bys) : Eng.Item := ⟨fun k => k = b, fun w => w.rangeAt b 0 (zaf s) ∧ b < w.heap.size⟩
theorem zfb (b : Nat) (s : Bys) : (rdI b s).Stable none' := fun w w' h ⟨hp, hl⟩ => by
 have hb := h b (.inr rfl)
 refine ⟨fun j v hj => ?_, ?_⟩
 ·rw [← hp j v hj]
  unfold World.cell?
  simp only [hb]
 ·rw [Array.getElem?_eq_getElem hl] at hb
  exact (Array.getElem?_eq_some_iff.1 hb).1
def zch (D : Dsk) (at_ : Nat) : Bys := ((D.wait.reverse.find? fun p => decide (p.2 = at_)).map (·.1)).getD (D.on.getD at_ [])
theorem zj9 (A : List Bys) (x : Bys) (B : List Bys) : ze7 (A ++ x :: B) = ze7 A ++ (zaf x ++ ze7 B) := by simp [ze7]
theorem qkn {l : List Bys} (h : ∀ s ∈ l, s.length = 512) {i : Nat} (hi : i < l.length) {w : World} {b : Nat} (hr : w.rangeAt b 0 (ze7 l)) : w.rangeAt b (i * 512) (zaf l[i]) := fun j v hj => by
 have h5 : j < 512 := by have := (List.getElem?_eq_some_iff.1 hj).1; rwa [zar, h _ (List.getElem_mem hi)] at this
 have hsp : l.take i ++ (l[i] :: l.drop (i + 1)) = l := by rw [List.getElem_cons_drop, List.take_append_drop]
 have hlen : ∀ L : List Bys, (∀ s ∈ L, s.length = 512) → (ze7 L).length = L.length * 512 := by
  intro L
  induction L with
  | nil => intro _; rfl
  | cons x L ih =>
   intro hL
   have e : ze7 (x :: L) = zaf x ++ ze7 L := by simp [ze7]
   rw [e, List.length_append, ih fun q hq => hL q (by simp [hq]), zar, hL x (by simp), List.length_cons]; omega
 have hl : (ze7 (l.take i)).length = i * 512 := by rw [hlen _ fun s hs => h s (List.mem_of_mem_take hs), List.length_take, Nat.min_eq_left (by omega)]
 have e := zj9 (l.take i) l[i] (l.drop (i + 1))
 rw [hsp] at e
 have := hr (i * 512 + j) v ?_
 ·rwa [Nat.zero_add] at this
 ·rw [e, List.getElem?_append_right (by omega), hl, Nat.add_sub_cancel_left, List.getElem?_append_left (by rw [zar, h _ (List.getElem_mem hi)]; exact h5)]
  exact hj
theorem qqf {d : Dk} {w : World} (h : za2 (dkI d) w) (ok : d.D.Ok) {i : Nat} (hi : i < d.D.on.length) : w.rangeAt d.onB (i * 512) (zaf d.D.on[i]) :=
 qkn ok.size hi (za7 (h.1.1 (pt d.onB (.cells (ze7 d.D.on).toArray 187 (0, 0))) (.tail _ (.head _))).1)
theorem zl2 {p : Bys × Nat} (h : p.1.length = 512) : (wrV p).length = 513 := by rw [wrV, List.length_append, zar, h]; rfl
theorem qec (d : Dk) (ok : d.D.Ok) (at_ : Nat) (hat : at_ < d.D.on.length) (w : World) (h : za2 (dkI d) w) :
  Ct Tryz.prog 139 #[.pointer (some ⟨d.b, 0, none⟩), .int .i64 at_] w none' (fun b : Nat => .slice (some ⟨b, 0, none⟩) 512 512) (fun _ => True) (fun b => [rdI b (d.D.on.getD at_ [])]) := by
 refine zfo [_, _] Tryz.func139 rfl rfl ?_
 simp only [zaa, Nat.reduceAdd]
 have hmany := ok.many
 have hrow := qqf h ok hat
 have hs := ok.size _ (List.getElem_mem hat)
 have hg : d.D.on.getD at_ [] = d.D.on[at_] := by rw [List.getD_eq_getElem?_getD, List.getElem?_eq_getElem hat]; rfl
 rw [hg]
 generalize d.D.on[at_] = s at hrow hs ⊢
 have hb : (zaf s).length = 512 := by rw [zar, hs]
 refine goA ?_
 refine zae rfl (zag rfl (by kernel_rfl) rfl (fun w1 hw1 => zn8 d at_ (by omega) w1 (h.keep hw1))) fun _ => ?_
 rw [if_pos hat]
 refine goA ?_
 refine l_w rfl (zaz rfl rfl (fun w' hw' => qed (h.keep hw') 2 rfl)) ?_
 refine goA ?_
 rw [Nat.zero_add]
 refine l_w rfl (zi0 (xs := zaf s) rfl (by rw [hb]; rfl) (fun w' hw' => zbg hrow (fun h => h) hw')) ?_
 refine zan rfl rfl fun b5 hb5 => ?_
 refine za0 rfl (zai (cs' := (zaf s).toArray) rfl rfl rfl (by rw [List.size_toArray, hb]; rfl) (zel _) (by rw [List.size_toArray, hb]; rfl)) fun _ => ?_
 refine goA ?_
 refine l_w rfl (zst (n := 512) rfl rfl rfl rfl) ?_
 refine goA ?_
 refine zb3 (m' := [rdI b5 s]) (fun w' hw' => hw'.imp (fun _ h => h) (fun hp => ⟨za7 hp, (Array.getElem?_eq_some_iff.1 hp).1⟩) ((zfb _ _).ro _)) ?_
 exact zbw b5 rfl rfl rfl trivial (.refl _) (by simp [zfb])
theorem qlf {d : Dk} {w : World} (h : za2 (dkI d) w) (ok : d.D.Ok) {i : Nat} (hi : i < d.D.wait.length) : ∃ b c, d.w = some (b, c) ∧ w.rangeAt b (i * 513) (wrV d.D.wait[i]) := by
 have hp := (h.1.1 (own 189 513 d.w d.D.wait.length (zc3 wrV d.D.wait)) (.tail _ (.tail _ (.head _)))).1
 have hsz : ∀ p ∈ d.D.wait, (wrV p).length = 513 := fun p hp => zl2 (ok.wsize p hp).1
 match hw : d.w, hp with
 | none, hp => exact absurd hp.2 (by omega)
 | some (b, c), hp =>
  refine ⟨b, c, rfl, fun j v hj => ?_⟩
  have hl : ∀ L : List (Bys × Nat), (∀ p ∈ L, (wrV p).length = 513) → (zc3 wrV L).length = L.length * 513 := by
   intro L
   induction L with
   | nil => intro _; rfl
   | cons x L ih =>
    intro hL
    rw [zgc, List.length_append, ih fun q hq => hL q (by simp [hq]), hL x (by simp), List.length_cons]; omega
  have h5 : j < 513 := by have := (List.getElem?_eq_some_iff.1 hj).1; rwa [hsz _ (List.getElem_mem hi)] at this
  have hsp : d.D.wait.take i ++ (d.D.wait[i] :: d.D.wait.drop (i + 1)) = d.D.wait := by rw [List.getElem_cons_drop, List.take_append_drop]
  have e : zc3 wrV (d.D.wait.take i ++ (d.D.wait[i] :: d.D.wait.drop (i + 1))) = zc3 wrV (d.D.wait.take i) ++ (wrV d.D.wait[i] ++ zc3 wrV (d.D.wait.drop (i + 1))) := by rw [zit, zgc]
  rw [hsp] at e
  have h2 := zee hp (i * 513 + j) v ?_
  ·rwa [Nat.zero_add] at h2
  ·rw [e, List.getElem?_append_right (by rw [hl _ fun p hp => hsz p (List.mem_of_mem_take hp), List.length_take, Nat.min_eq_left (by omega)]; omega), hl _ fun p hp => hsz p (List.mem_of_mem_take hp), List.length_take, Nat.min_eq_left (by omega), Nat.add_sub_cancel_left, List.getElem?_append_left (by rw [hsz _ (List.getElem_mem hi)]; exact h5)]
   exact hj
def dnI : Nat → Int
 | 0 => -1
 | j + 1 => (j : Nat)
theorem qj4 : ∀ j : Nat, dnI j = (j : Int) - 1
 | 0 => rfl
 | j + 1 => by rw [dnI]; omega
theorem qpk {w : World} {b off : Nat} {p : Bys × Nat} (h5 : p.1.length = 512) (h : w.rangeAt b off (wrV p)) : w.cell? ⟨b, off + 512, none⟩ = some (.int .i64 (p.2 : Int)) :=
 h 512 _ (by rw [wrV, List.getElem?_append_right (by rw [zar]; omega), zar, h5]; rfl)
theorem zsp {w : World} {b off : Nat} {p : Bys × Nat} (h : w.rangeAt b off (wrV p)) : w.rangeAt b off (zaf p.1) := fun j v hj => h j v (by
 rw [wrV, List.getElem?_append_left (List.getElem?_eq_some_iff.1 hj).1]; exact hj)
theorem zsn (p : Bys × Nat) : zbz (wrV p) = true := by
 rw [za4]
 intro v hv
 rcases List.mem_append.1 hv with hv | hv
 ·exact za4.1 (zel _) v hv
 ·rw [List.mem_singleton] at hv; subst hv; rfl
theorem qlt {D : Dsk} {i : Nat} (hi : i < D.wait.length) {at_ : Nat} (hno : ∀ p ∈ D.wait.drop (i + 1), p.2 ≠ at_) (he : D.wait[i].2 = at_) : zch D at_ = D.wait[i].1 := by
 have hsp : D.wait = D.wait.take i ++ (D.wait[i] :: D.wait.drop (i + 1)) := by rw [List.getElem_cons_drop, List.take_append_drop]
 have hf : D.wait.reverse.find? (fun p => decide (p.2 = at_)) = some D.wait[i] := by
  conv => lhs; rw [hsp]
  rw [List.reverse_append, List.reverse_cons, List.append_assoc, List.find?_append, List.find?_eq_none.2 fun x hx => by simpa using hno x (List.mem_reverse.1 hx)]
  simp [he]
 unfold zch
 rw [hf]; rfl
theorem qhx {D : Dsk} {at_ : Nat} (hno : ∀ p ∈ D.wait, p.2 ≠ at_) : zch D at_ = D.on.getD at_ [] := by
 have hf : D.wait.reverse.find? (fun p => decide (p.2 = at_)) = none := List.find?_eq_none.2 fun x hx => by simpa using hno x (List.mem_reverse.1 hx)
 unfold zch
 rw [hf]; rfl
theorem zmh (d : Dk) (ok : d.D.Ok) (hlive : d.D.dead = false) (at_ : Nat) (hat : at_ < d.D.on.length) (hwl : d.D.wait.length ≤ 1000000000) (w : World) (h : za2 (dkI d) w) :
  Ct Tryz.prog 98 #[.pointer (some ⟨d.b, 0, none⟩), .int .i64 at_] w none' (fun b : Nat => .tuple #[.slice (some ⟨b, 0, none⟩) 512 512, .int .i64 0]) (fun _ => True) (fun b => [rdI b (zch d.D at_)]) := by
 refine zfo [_, _] Tryz.func98 rfl rfl ?_
 simp only [zaa, Nat.reduceAdd]
 have hmany := ok.many
 refine goA ?_
 refine zae rfl (zag rfl (by kernel_rfl) rfl (fun w1 hw1 => zkb d w1 (h.keep hw1))) fun _ => ?_
 rw [hlive]
 refine goA ?_
 refine zae rfl (zag rfl (by kernel_rfl) rfl (fun w1 hw1 => zn8 d at_ (by omega) w1 (h.keep hw1))) fun _ => ?_
 rw [if_pos hat]
 refine za0 rfl (zbc rfl rfl rfl rfl rfl rfl) fun ⟨bq, hbq⟩ => ?_
 refine zae rfl (zag rfl (by kernel_rfl) rfl (fun w1 hw1 => zkj [0, 0] (some ⟨bq, 0, none⟩) 2 (by simp) w1 (zbn (o := some (bq, 2)) (hw1.item _ (.head _)).1))) fun _ => ?_
 rw [show zh5 [0, 0] = 0 from rfl]
 refine goA ?_
 have hvl := (zav (h.1.1 (own 189 513 d.w d.D.wait.length (zc3 wrV d.D.wait)) (.tail _ (.tail _ (.head _)))).1).1
 have h3 : (zer d)[3]? = some (.slice (slA d.w) d.D.wait.length (slC d.w)) := by rw [← hvl]; rfl
 refine l_w rfl (zaz rfl rfl (fun w' hw' => qed (h.keep hw') 3 h3)) ?_
 refine goA ?_
 refine l_w rfl (zsd rfl rfl (by omega)) ?_
 refine goA ?_
 refine zct (α := Nat) (fun k => [(0, .pointer (some ⟨d.b, 0, none⟩)), (1, .int .i64 at_), (7, .int .i64 (dnI k))]) (fun k => k ≤ d.D.wait.length ∧ ∀ p ∈ d.D.wait.drop k, p.2 ≠ at_) (fun _ => []) (fun k => k) d.D.wait.length ⟨rfl, rfl, by rw [qj4]; rfl, trivial⟩ ⟨Nat.le_refl _, by rw [List.drop_length]; exact fun _ h => nomatch h⟩ (fun w' hw' => hw'.pick [] rfl rfl) fun k ⟨hk, hno⟩ => ?_
 cases k with
 | zero =>
  rw [qhx hno, show dnI 0 = -1 from rfl]
  refine goA ?_
  refine ze5 rfl rfl (by kernel_rfl) rfl (fun w1 hw1 => qec d ok at_ hat w1 (h.keep hw1)) fun x hx => ?_
  refine goA ?_
  exact zdq x rfl rfl rfl rfl trivial (.refl _) (by simp [zfb])
 | succ j =>
  have hj : j < d.D.wait.length := hk
  obtain ⟨bw, cw, hbw, hrow⟩ := qlf h ok hj
  have hsz := ok.wsize _ (List.getElem_mem hj)
  have hhit := qlt hj hno
  have hdr : d.D.wait.drop j = d.D.wait[j] :: d.D.wait.drop (j + 1) := (List.getElem_cons_drop ..).symm
  rw [hbw] at h3
  generalize d.D.wait[j] = p at hrow hsz hhit hdr
  have hwl' := zl2 hsz.1
  rw [show dnI (j + 1) = (j : Int) from rfl]
  refine goA ?_
  refine l_w rfl (zaz rfl rfl (fun w' hw' => qed (h.keep hw') 3 h3)) ?_
  refine goA ?_
  rw [Nat.zero_add]
  refine l_w rfl (zi0 (xs := wrV p) rfl (by rw [hwl']; rfl) (fun w' hw' => zbg hrow (fun h => h) hw')) ?_
  refine zan rfl rfl fun b8 hb8 => ?_
  refine za0 rfl (zai (cs' := (wrV p).toArray) rfl rfl rfl (by rw [List.size_toArray, hwl']; rfl) (zsn _) (by rw [List.size_toArray, hwl']; rfl)) fun _ => ?_
  refine goA ?_
  refine l_w rfl (zaz rfl rfl (fun w' hw' => (qpk hsz.1 (za7 (hw'.get (b := b8) (.head _))) :))) ?_
  refine goA ?_
  by_cases he : p.2 = at_
  ·rw [hhit he]
   refine goA ?_
   refine l_w rfl (zst (n := 512) rfl rfl rfl rfl) ?_
   refine goA ?_
   refine zb3 (m' := [rdI b8 p.1]) (fun w' hw' => hw'.imp (fun _ h => h) (fun hp => ⟨zsp (za7 hp), (Array.getElem?_eq_some_iff.1 hp).1⟩) ((zfb _ _).ro _)) ?_
   exact zdq b8 rfl rfl rfl rfl trivial (.refl _) (by simp [zfb])
  ·refine goA ?_
   refine l_w rfl (zsd rfl rfl (by omega)) ?_
   refine goA ?_
   exact zay j ⟨rfl, rfl, by rw [qj4]; rfl, trivial⟩ ⟨by omega, fun q hq => by
    rw [hdr] at hq
    rcases List.mem_cons.1 hq with rfl | hq
    ·exact he
    ·exact hno q hq⟩ (fun w' hw' => hw'.pick [] rfl rfl) (by omega)
end Go.Proofs.YtkkfifhaobjicaaGreatDoor
namespace Go.Eng
open Go.RowKit
theorem zj8 {P : Program} {l : zat} {H : World → Prop} {x y : Operand} {T U ty : TypeId} {a b : Nat} (hx : evO l x = some (.int .u64 (a : Int))) (hy : evO l y = some (.int .u64 (b : Int))) : OV P (.binOp .add T x y U) ty l H (.int .u64 (((a + b) % 18446744073709551616 : Nat) : Int)) := zf1 hx hy fun w => ze3 w (by rw [← Int.natCast_add]; exact zdd _)
end Go.Eng
namespace Go.Proofs.YtkkfifhaobjicaaGreatDoor
open Go.RowKit Go.Eng
set_option maxRecDepth 100000
set_option maxHeartbeats 40000000
def zib (k : Bys) (i : Nat) : Bool := decide (i / 8 < k.length) && decide ((k.getD (i / 8) 0).toNat / 2 ^ (i % 8) % 2 = 1)
def zif (on : List Bys) (ws : List (Bys × Nat)) (f : Nat → Bool) : Nat → List Bys
 | 0 => on
 | k + 1 => if f k then (zif on ws f k).set (ws.getD k ([], 0)).2 (ws.getD k ([], 0)).1 else zif on ws f k
theorem zf9 (on : List Bys) (ws : List (Bys × Nat)) (f : Nat → Bool) : ∀ k, (zif on ws f k).length = on.length
 | 0 => rfl
 | k + 1 => by
  rw [zif]
  split
  ·rw [List.length_set, zf9]
  ·exact zf9 on ws f k
theorem zjn {D : Dsk} (ok : D.Ok) (f : Nat → Bool) : ∀ k, k ≤ D.wait.length → ∀ s ∈ zif D.on D.wait f k, s.length = 512
 | 0, _ => ok.size
 | k + 1, hk => fun s hs => by
  have hw := (ok.wsize _ (List.getElem_mem (show k < D.wait.length from hk))).1
  rw [zif] at hs
  split at hs
  ·rcases List.mem_or_eq_of_mem_set hs with hs | rfl
   ·exact zjn ok f k (by omega) s hs
   ·rwa [List.getD_eq_getElem?_getD, List.getElem?_eq_getElem (show k < D.wait.length from hk)]
  ·exact zjn ok f k (by omega) s hs
def zs7 (D : Dsk) (keep : Bys) : Dsk := ⟨zif D.on D.wait (zib keep) D.wait.length, [], none, [], true⟩
def zrx (D : Dsk) : Dsk := { D with on := zif D.on D.wait (fun _ => true) D.wait.length, wait := [] }
def zgs (D : Dsk) : Nat × Dsk := match D.left with
 | none => (0, D)
 | some 0 => (4, zs7 D D.keep)
 | some (n + 1) => (0, { D with left := some n })
theorem qlu {D : Dsk} (ok : D.Ok) (keep : Bys) : (zs7 D keep).Ok :=
 ⟨zjn ok _ _ (Nat.le_refl _), fun _ h => (nomatch h), by show (zif _ _ _ _).length ≤ _; rw [zf9]; exact ok.many, fun n h => (nomatch h)⟩
theorem qha {D : Dsk} (ok : D.Ok) : (zrx D).Ok :=
 ⟨zjn ok _ _ (Nat.le_refl _), fun _ h => (nomatch h), by show (zif _ _ _ _).length ≤ _; rw [zf9]; exact ok.many, ok.left⟩
theorem zq0 {D : Dsk} (ok : D.Ok) : (zgs D).2.Ok := by
 unfold zgs
 split
 ·exact ok
 ·exact qlu ok _
 ·rename_i n hn
  exact ⟨ok.size, ok.wsize, ok.many, fun k hk => by cases hk; have := ok.left _ hn; omega⟩
theorem zp6 {L : List Bys} (hL : ∀ s ∈ L, s.length = 512) : (ze7 L).length = L.length * 512 := by
 induction L with
 | nil => rfl
 | cons x L ih =>
  have e : ze7 (x :: L) = zaf x ++ ze7 L := by simp [ze7]
  rw [e, List.length_append, ih fun q hq => hL q (by simp [hq]), zar, hL x (by simp), List.length_cons]; omega
theorem zvi {l : List Bys} (h : ∀ s ∈ l, s.length = 512) {i : Nat} (hi : i < l.length) {s : Bys} (hs : s.length = 512) : put (ze7 l) (i * 512) (zaf s) = ze7 (l.set i s) := by
 have hsp : l.take i ++ (l[i] :: l.drop (i + 1)) = l := by rw [List.getElem_cons_drop, List.take_append_drop]
 have e := zj9 (l.take i) l[i] (l.drop (i + 1))
 rw [hsp] at e
 have hlt : (ze7 (l.take i)).length = i * 512 := by rw [zp6 fun s hs => h s (List.mem_of_mem_take hs), List.length_take, Nat.min_eq_left (by omega)]
 have hset : l.set i s = l.take i ++ (s :: l.drop (i + 1)) := by rw [List.set_eq_take_append_cons_drop, if_pos hi]
 rw [hset, zj9, e]
 unfold put
 have hb : (zaf l[i]).length = 512 := by rw [zar, h _ (List.getElem_mem hi)]
 rw [zar, hs, ← hlt, List.take_left, ← List.drop_drop, List.drop_left, ← hb, List.drop_left, List.append_assoc]
theorem zzg {D : Dsk} (ok : D.Ok) {i : Nat} (hi : i < D.wait.length) {w : World} {b c : Nat} (hp : (own 189 513 (some (b, c)) D.wait.length (zc3 wrV D.wait)).prop w) : w.rangeAt b (i * 513) (wrV D.wait[i]) := fun j v hj => by
 have hsz : ∀ p ∈ D.wait, (wrV p).length = 513 := fun p hp => zl2 (ok.wsize p hp).1
 have hl : ∀ L : List (Bys × Nat), (∀ p ∈ L, (wrV p).length = 513) → (zc3 wrV L).length = L.length * 513 := by
  intro L
  induction L with
  | nil => intro _; rfl
  | cons x L ih =>
   intro hL
   rw [zgc, List.length_append, ih fun q hq => hL q (by simp [hq]), hL x (by simp), List.length_cons]; omega
 have h5 : j < 513 := by have := (List.getElem?_eq_some_iff.1 hj).1; rwa [hsz _ (List.getElem_mem hi)] at this
 have hsp : D.wait.take i ++ (D.wait[i] :: D.wait.drop (i + 1)) = D.wait := by rw [List.getElem_cons_drop, List.take_append_drop]
 have e : zc3 wrV (D.wait.take i ++ (D.wait[i] :: D.wait.drop (i + 1))) = zc3 wrV (D.wait.take i) ++ (wrV D.wait[i] ++ zc3 wrV (D.wait.drop (i + 1))) := by rw [zit, zgc]
 rw [hsp] at e
 have h2 := zee hp (i * 513 + j) v ?_
 ·rwa [Nat.zero_add] at h2
 ·rw [e, List.getElem?_append_right (by rw [hl _ fun p hp => hsz p (List.mem_of_mem_take hp), List.length_take, Nat.min_eq_left (by omega)]; omega), hl _ fun p hp => hsz p (List.mem_of_mem_take hp), List.length_take, Nat.min_eq_left (by omega), Nat.add_sub_cancel_left, List.getElem?_append_left (by rw [hsz _ (List.getElem_mem hi)]; exact h5)]
  exact hj
theorem qdf {p : Bys × Nat} (h5 : p.1.length = 512) : (wrV p)[512]? = some (.int .i64 (p.2 : Int)) := by
 rw [wrV, List.getElem?_append_right (by rw [zar]; omega), zar, h5]; rfl
theorem qau (d : Dk) (ok : d.D.Ok) (keep : Bys) (hk : keep.length ≤ 1000000) (hwl : d.D.wait.length ≤ 1000000000) (w : World) (hw : ∀ it ∈ [dkI d], za2 it w) :
  Ct Tryz.prog 157 #[.pointer (some ⟨d.b, 0, none⟩), .string ⟨keep.toArray⟩] w (zap [dkI d]) (fun _ : Unit => .tuple #[]) (fun _ => True) (fun _ => [dkI { d with w := none, D := zs7 d.D keep }]) := by
 refine zbd [_, _] _ Tryz.func157 rfl rfl hw (.cons (fun _ h => nomatch h) .nil) ?_
 simp only [zaa, Nat.reduceAdd]
 have hmany := ok.many
 have hkl := bal keep
 refine zku (m' := dkL d) (fun w' hw' => by have := hw'.open1; rwa [List.append_nil] at this) ?_
 unfold dkL
 refine zf2 (fun w' hw' => zav (hw'.item (own 189 513 d.w d.D.wait.length (zc3 wrV d.D.wait)) (by simp)).1) fun ⟨hv, hc⟩ => ?_
 have h3 : (zer d)[3]? = some (.slice (slA d.w) d.D.wait.length (slC d.w)) := by rw [← hv]; rfl
 have h2 : (zer d)[2]? = some (.slice (some ⟨d.onB, 0, none⟩) d.D.on.length d.D.on.length) := rfl
 refine goA ?_
 rw [hv]
 refine goA ?_
 refine zct (α := Nat) (fun i => [(0, .pointer (some ⟨d.b, 0, none⟩)), (1, .string ⟨keep.toArray⟩), (9, .slice (slA d.w) d.D.wait.length (slC d.w)), (10, .int .i64 d.D.wait.length), (11, .int .i64 i)]) (fun i => i ≤ d.D.wait.length)
  (fun i => [pt d.onB (.cells (ze7 (zif d.D.on d.D.wait (zib keep) i)).toArray 187 (0, 0)), own 189 513 d.w d.D.wait.length (zc3 wrV d.D.wait), pt d.b (.cells (zer d).toArray 149 (0, 0))]) (fun i => d.D.wait.length - i) 0 ⟨rfl, rfl, rfl, rfl, rfl, trivial⟩ (Nat.zero_le _) (fun w' hw' => hw'.pick [1, 2, 0] rfl rfl) fun i hi => ?_
 by_cases hi2 : i < d.D.wait.length
 ·obtain ⟨bw, cw, hbw⟩ : ∃ b c, d.w = some (b, c) := by
   cases h : d.w with
   | none => rw [h, show slC none = 0 from rfl] at hc; omega
   | some bc => exact ⟨bc.1, bc.2, rfl⟩
  rw [hbw]
  have hrow := fun (w' : World) (hp : (own 189 513 (some (bw, cw)) d.D.wait.length (zc3 wrV d.D.wait)).prop w') => zzg ok hi2 hp
  have hsz := ok.wsize _ (List.getElem_mem hi2)
  have hgd : d.D.wait.getD i ([], 0) = d.D.wait[i] := by rw [List.getD_eq_getElem?_getD, List.getElem?_eq_getElem hi2]; rfl
  have hup : zif d.D.on d.D.wait (zib keep) (i + 1) = if zib keep i then (zif d.D.on d.D.wait (zib keep) i).set d.D.wait[i].2 d.D.wait[i].1 else zif d.D.on d.D.wait (zib keep) i := by rw [zif, hgd]
  have h512 := zjn ok (zib keep) i hi
  have hal := zf9 d.D.on d.D.wait (zib keep) i
  generalize zif d.D.on d.D.wait (zib keep) i = L at hup h512 hal ⊢
  generalize d.D.wait[i] = p at hrow hsz hup
  have hwl' := zl2 hsz.1
  have hbl : (zaf p.1).length = 512 := by rw [zar, hsz.1]
  have hsl := zp6 h512
  refine goA ?_
  refine l_w rfl (zi0 (xs := wrV p) rfl (by rw [hwl']; rfl) (fun w' hw' => by rw [Nat.zero_add]; exact hrow w' (hw'.item _ (.tail _ (.head _))).1)) ?_
  refine zan rfl rfl fun b5 hb5 => ?_
  refine goA ?_
  refine za0 rfl (zai (cs' := (wrV p).toArray) rfl rfl rfl (by rw [List.size_toArray, hwl']; rfl) (zsn _) (by rw [List.size_toArray, hwl']; rfl)) fun _ => ?_
  refine zye (zm3 ?_)
  refine zv6 ?_
  refine zm8 (w0 := w) (F := zap [dkI d]) (α := Unit) (fun _ => [(0, .pointer (some ⟨d.b, 0, none⟩)), (1, .string ⟨keep.toArray⟩), (9, .slice (slA (some (bw, cw))) d.D.wait.length (slC (some (bw, cw)))), (10, .int .i64 d.D.wait.length), (11, .int .i64 i), (5, .pointer (some ⟨b5, 0, none⟩)), (31, .bool (zib keep i))]) (fun _ => True)
   (fun _ => [pt b5 (.cells (wrV p).toArray 189 (0, 0)), pt d.onB (.cells (ze7 L).toArray 187 (0, 0)), own 189 513 (some (bw, cw)) d.D.wait.length (zc3 wrV d.D.wait), pt d.b (.cells (zer d).toArray 149 (0, 0))]) ?_ fun _ _ => ?_
  ·have hkb : zib keep i = (decide (i / 8 < keep.length) && decide ((keep.getD (i / 8) 0).toNat / 2 ^ (i % 8) % 2 = 1)) := rfl
   by_cases h8 : i / 8 < keep.length
   ·have h8' : i / 8 < (⟨keep.toArray⟩ : ByteArray).size := by rw [hkl]; exact h8
    have hget : ((⟨keep.toArray⟩ : ByteArray)[i / 8]).toNat = (keep.getD (i / 8) 0).toNat := by
     rw [List.getD_eq_getElem?_getD, List.getElem?_eq_getElem h8]; rfl
    have hb := (keep.getD (i / 8) 0).toNat_lt
    rw [decide_eq_true h8, Bool.true_and] at hkb
    rw [hkb]
    generalize (keep.getD (i / 8) 0).toNat = c at hget hb
    have hq : c / 2 ^ (i % 8) < 256 := Nat.lt_of_le_of_lt (Nat.div_le_self _ _) hb
    rw [← hget] at hq ⊢
    generalize hQ : ((⟨keep.toArray⟩ : ByteArray)[i / 8]).toNat / 2 ^ (i % 8) = q at hq
    refine goA ?_
    simp only [hQ]
    refine goA ?_
    refine zd1 () ⟨rfl, rfl, rfl, rfl, rfl, rfl, ?_, trivial⟩ trivial (fun w' hw' => hw')
    refine congrArg (fun z => some (Value.bool z)) ?_
    rw [Nat.and_one_is_mod]
    by_cases h1 : q % 2 = 1
    ·rw [decide_eq_true h1, h1]; rfl
    ·rw [decide_eq_false h1, beq_eq_false_iff_ne]; omega
   ·rw [decide_eq_false h8, Bool.false_and] at hkb
    rw [hkb]
    have h8' : ¬ i / 8 < (⟨keep.toArray⟩ : ByteArray).size := by rw [hkl]; exact h8
    refine goA ?_
    exact zd1 () ⟨rfl, rfl, rfl, rfl, rfl, rfl, rfl, trivial⟩ trivial (fun w' hw' => hw')
  ·cases hb : zib keep i with
   | true =>
    rw [hb, if_pos rfl] at hup
    refine zde [1, 0, 2, 3] rfl rfl ?_
    refine goA ?_
    refine zaq [0, 1, 2, 3] 9 rfl rfl (by kernel_rfl) ?_
    (repeat first | refine dAv [5, 7] rfl rfl rfl ?_ | refine dno [5, 7] rfl rfl rfl ?_ | refine dT [5, 7] rfl rfl rfl rfl ?_ | refine dF [5, 7] rfl rfl rfl rfl ?_)
    refine d_v [7] rfl rfl (by kernel_rfl) (fun _ h => goH h) rfl rfl (zc6 rfl rfl (.tail _ (.head _)) (by rw [List.getElem?_toArray]; exact qdf hsz.1)) ?_
    (repeat first | refine dAv [7] rfl rfl rfl ?_ | refine dno [7] rfl rfl rfl ?_ | refine dT [7] rfl rfl rfl rfl ?_ | refine dF [7] rfl rfl rfl rfl ?_)
    refine d_v [] rfl rfl (by kernel_rfl) (fun _ h => goH h) rfl rfl (zi0 (xs := zaf p.1) rfl (by rw [hbl]; rfl) (fun w' hw' => zsp (za7 (hw'.get (b := b5) (.tail _ (.head _)))))) ?_
    refine goE ?_
    refine zdk ⟨by kernel_rfl, by kernel_rfl⟩ rfl rfl (zhe (V := zaf p.1) rfl rfl rfl rfl (by rw [hbl]; rfl) (zel _) (by rw [hbl, hsl, hal]; omega)) fun _ => ?_
    rw [Nat.zero_add, zvi h512 (by rw [hal]; exact hsz.2) hsz.1, ← hup]
    refine goA ?_
    exact zay (i + 1) ⟨rfl, rfl, rfl, rfl, rfl, trivial⟩ hi2 (fun w' hw' => hw'.pick [0, 2, 3] rfl rfl) (by omega)
   | false =>
    rw [hb, if_neg (by decide)] at hup
    refine goA ?_
    exact zay (i + 1) ⟨rfl, rfl, rfl, rfl, rfl, trivial⟩ hi2 (fun w' hw' => by rw [hup]; exact hw'.sub (.cons _ (.refl _))) (by omega)
 ·obtain rfl : i = d.D.wait.length := by omega
  refine goA ?_
  refine za0 rfl (zak (zc9 _ _ _ _) (zaj rfl rfl rfl rfl rfl rfl (show (3 : Nat) < 6 from by decide))) fun _ => ?_
  refine goA ?_
  refine za0 rfl (zaj rfl rfl rfl rfl rfl rfl (show (4 : Nat) < 6 from by decide)) fun _ => ?_
  refine goA ?_
  refine ze1 (m' := [pt d.b (.cells [.int .i64 (zoz d.D.left), .string ⟨d.D.keep.toArray⟩, .slice (some ⟨d.onB, 0, none⟩) d.D.on.length d.D.on.length, .slice none 0 0, .bool true, .int .u64 (d.acts : Nat)].toArray 149 (0, 0)), pt d.onB (.cells (ze7 (zif d.D.on d.D.wait (zib keep) d.D.wait.length)).toArray 187 (0, 0))]) (fun w' hw' => hw'.sub (.cons_cons _ (.cons_cons _ (.cons _ (.refl _))))) ?_
  refine za0 rfl (zhe (V := [.int .i64 (-1), .string ⟨#[]⟩]) rfl rfl rfl rfl rfl rfl (show (0 + 2 : Nat) ≤ 6 from by decide)) fun _ => ?_
  refine goA ?_
  have hcl : zer { d with w := none, D := zs7 d.D keep } = put [.int .i64 (zoz d.D.left), .string ⟨d.D.keep.toArray⟩, .slice (some ⟨d.onB, 0, none⟩) d.D.on.length d.D.on.length, .slice none 0 0, .bool true, .int .u64 (d.acts : Nat)] 0 [.int .i64 (-1), .string ⟨#[]⟩] := by
   show [_, _, Value.slice _ (zif d.D.on d.D.wait (zib keep) d.D.wait.length).length (zif d.D.on d.D.wait (zib keep) d.D.wait.length).length, _, _, _] = _
   rw [zf9]; rfl
  refine zb3 (m' := [dkI { d with w := none, D := zs7 d.D keep }]) (fun w' hw' => Hp.close1 (m := []) (zr6 _) ?_) (zk3 () rfl rfl trivial (.refl _) (by simp [dkI, zad]))
  rw [List.append_nil]
  unfold dkL
  rw [hcl]
  exact (zd5 189 513 hw').pick [1, 2, 0] rfl rfl
end Go.Proofs.YtkkfifhaobjicaaGreatDoor
