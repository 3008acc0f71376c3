/- package disk: what is read. -/
/- package disk: what is written, flushed, and lost. -/
import Derived.Test.YtplhamichcnmmaaGreatDoorHc08
namespace Go.Proofs.YtplhamichcnmmaaGreatDoor
open Go.RowKit Go.Eng
set_option maxRecDepth 100000
set_option maxHeartbeats 40000000
def rdI (b : Nat) (s : Bys) : Eng.Item := ⟨fun k => k = b, fun w => w.rangeAt b 0 (bytesV s) ∧ b < w.heap.size⟩
theorem rdI_stable (b : Nat) (s : Bys) : (rdI b s).Stable none' := fun w w' h ⟨hp, hl⟩ => by
  have hb := h b (.inr rfl)
  refine ⟨fun j v hj => ?_, ?_⟩
  · rw [← hp j v hj]
    unfold World.cell?
    simp only [hb]
  · rw [Array.getElem?_eq_getElem hl] at hb
    exact (Array.getElem?_eq_some_iff.1 hb).1
def curF (D : Dsk) (at_ : Nat) : Bys := ((D.wait.reverse.find? fun p => decide (p.2 = at_)).map (·.1)).getD (D.on.getD at_ [])
theorem secsV_split (A : List Bys) (x : Bys) (B : List Bys) : secsV (A ++ x :: B) = secsV A ++ (bytesV x ++ secsV B) := by simp [secsV]
theorem secs_at {l : List Bys} (h : ∀ s ∈ l, s.length = 512) {i : Nat} (hi : i < l.length) {w : World} {b : Nat} (hr : w.rangeAt b 0 (secsV l)) : w.rangeAt b (i * 512) (bytesV l[i]) := fun j v hj => by
  have h5 : j < 512 := by have := (List.getElem?_eq_some_iff.1 hj).1; rwa [bytesV_length, h _ (List.getElem_mem hi)] at this
  have hsp : l.take i ++ (l[i] :: l.drop (i + 1)) = l := by rw [List.getElem_cons_drop, List.take_append_drop]
  have hlen : ∀ L : List Bys, (∀ s ∈ L, s.length = 512) → (secsV L).length = L.length * 512 := by
    intro L
    induction L with
    | nil => intro _; rfl
    | cons x L ih =>
      intro hL
      have e : secsV (x :: L) = bytesV x ++ secsV L := by simp [secsV]
      rw [e, List.length_append, ih fun q hq => hL q (by simp [hq]), bytesV_length, hL x (by simp), List.length_cons]; omega
  have hl : (secsV (l.take i)).length = i * 512 := by rw [hlen _ fun s hs => h s (List.mem_of_mem_take hs), List.length_take, Nat.min_eq_left (by omega)]
  have e := secsV_split (l.take i) l[i] (l.drop (i + 1))
  rw [hsp] at e
  have := hr (i * 512 + j) v ?_
  · rwa [Nat.zero_add] at this
  · rw [e, List.getElem?_append_right (by omega), hl, Nat.add_sub_cancel_left, List.getElem?_append_left (by rw [bytesV_length, h _ (List.getElem_mem hi)]; exact h5)]
    exact hj
theorem dk_on {d : Dk} {w : World} (h : Here (dkI d) w) (ok : d.D.Ok) {i : Nat} (hi : i < d.D.on.length) : w.rangeAt d.onB (i * 512) (bytesV d.D.on[i]) :=
  secs_at ok.size hi (rangeAt_pt (h.1.1 (pt d.onB (.cells (secsV d.D.on).toArray 150 (0, 0))) (.tail _ (.head _))).1)
theorem wrV_len {p : Bys × Nat} (h : p.1.length = 512) : (wrV p).length = 513 := by rw [wrV, List.length_append, bytesV_length, h]; rfl
theorem raw_calls (d : Dk) (ok : d.D.Ok) (at_ : Nat) (hat : at_ < d.D.on.length) (w : World) (h : Here (dkI d) w) :
    Ct Tryz.prog 112 #[.pointer (some ⟨d.b, 0, none⟩), .int .i64 at_] w none' (fun b : Nat => .slice (some ⟨b, 0, none⟩) 512 512) (fun _ => True) (fun b => [rdI b (d.D.on.getD at_ [])]) := by
  refine ct_of [_, _] Tryz.func112 rfl rfl ?_
  simp only [argSlots, Nat.reduceAdd]
  have hmany := ok.many
  have hrow := dk_on h ok hat
  have hs := ok.size _ (List.getElem_mem hat)
  have hg : d.D.on.getD at_ [] = d.D.on[at_] := by rw [List.getD_eq_getElem?_getD, List.getElem?_eq_getElem hat]; rfl
  rw [hg]
  generalize d.D.on[at_] = s at hrow hs ⊢
  have hb : (bytesV s).length = 512 := by rw [bytesV_length, hs]
  refine goA ?_
  refine l_opg rfl (o_pure rfl (by kernel_rfl) rfl (fun w1 hw1 => has_calls d at_ (by omega) w1 (h.keep hw1))) fun _ => ?_
  rw [if_pos hat]
  refine goA ?_
  refine l_w rfl (v_load rfl rfl (fun w' hw' => dk_at (h.keep hw') 2 rfl)) ?_
  refine goA ?_
  rw [Nat.zero_add]
  refine l_w rfl (v_loadc (xs := bytesV s) rfl (by rw [hb]; rfl) (fun w' hw' => rangeAt_old hrow (fun h => h) hw')) ?_
  refine l_alloca rfl rfl fun b5 hb5 => ?_
  refine l_op rfl (o_storea (cs' := (bytesV s).toArray) rfl rfl rfl (by rw [List.size_toArray, hb]; rfl) (bytesV_one _) (by rw [List.size_toArray, hb]; rfl)) fun _ => ?_
  refine goA ?_
  refine l_w rfl (v_slarr (n := 512) rfl rfl rfl rfl) ?_
  refine goA ?_
  refine x_imp (m' := [rdI b5 s]) (fun w' hw' => hw'.imp (fun _ h => h) (fun hp => ⟨rangeAt_pt hp, (Array.getElem?_eq_some_iff.1 hp).1⟩) ((rdI_stable _ _).ro _)) ?_
  exact x_ct b5 rfl rfl rfl trivial (.refl _) (by simp [rdI_stable])
theorem dk_wait {d : Dk} {w : World} (h : Here (dkI d) w) (ok : d.D.Ok) {i : Nat} (hi : i < d.D.wait.length) : ∃ b c, d.w = some (b, c) ∧ w.rangeAt b (i * 513) (wrV d.D.wait[i]) := by
  have hp := (h.1.1 (own 152 513 d.w d.D.wait.length (rowsV wrV d.D.wait)) (.tail _ (.tail _ (.head _)))).1
  have hsz : ∀ p ∈ d.D.wait, (wrV p).length = 513 := fun p hp => wrV_len (ok.wsize p hp).1
  match hw : d.w, hp with
  | none, hp => exact absurd hp.2 (by omega)
  | some (b, c), hp =>
    refine ⟨b, c, rfl, fun j v hj => ?_⟩
    have hl : ∀ L : List (Bys × Nat), (∀ p ∈ L, (wrV p).length = 513) → (rowsV wrV L).length = L.length * 513 := by
      intro L
      induction L with
      | nil => intro _; rfl
      | cons x L ih =>
        intro hL
        rw [rowsV_cons, List.length_append, ih fun q hq => hL q (by simp [hq]), hL x (by simp), List.length_cons]; omega
    have h5 : j < 513 := by have := (List.getElem?_eq_some_iff.1 hj).1; rwa [hsz _ (List.getElem_mem hi)] at this
    have hsp : d.D.wait.take i ++ (d.D.wait[i] :: d.D.wait.drop (i + 1)) = d.D.wait := by rw [List.getElem_cons_drop, List.take_append_drop]
    have e : rowsV wrV (d.D.wait.take i ++ (d.D.wait[i] :: d.D.wait.drop (i + 1))) = rowsV wrV (d.D.wait.take i) ++ (wrV d.D.wait[i] ++ rowsV wrV (d.D.wait.drop (i + 1))) := by rw [rowsV_append, rowsV_cons]
    rw [hsp] at e
    have h2 := rangeAt_own hp (i * 513 + j) v ?_
    · rwa [Nat.zero_add] at h2
    · rw [e, List.getElem?_append_right (by rw [hl _ fun p hp => hsz p (List.mem_of_mem_take hp), List.length_take, Nat.min_eq_left (by omega)]; omega), hl _ fun p hp => hsz p (List.mem_of_mem_take hp), List.length_take, Nat.min_eq_left (by omega), Nat.add_sub_cancel_left, List.getElem?_append_left (by rw [hsz _ (List.getElem_mem hi)]; exact h5)]
      exact hj
def dnI : Nat → Int
  | 0 => -1
  | j + 1 => (j : Nat)
theorem dnI_eq : ∀ j : Nat, dnI j = (j : Int) - 1
  | 0 => rfl
  | j + 1 => by rw [dnI]; omega
theorem wr_at {w : World} {b off : Nat} {p : Bys × Nat} (h5 : p.1.length = 512) (h : w.rangeAt b off (wrV p)) : w.cell? ⟨b, off + 512, none⟩ = some (.int .i64 (p.2 : Int)) :=
  h 512 _ (by rw [wrV, List.getElem?_append_right (by rw [bytesV_length]; omega), bytesV_length, h5]; rfl)
theorem wr_bytes {w : World} {b off : Nat} {p : Bys × Nat} (h : w.rangeAt b off (wrV p)) : w.rangeAt b off (bytesV p.1) := fun j v hj => h j v (by
  rw [wrV, List.getElem?_append_left (List.getElem?_eq_some_iff.1 hj).1]; exact hj)
theorem wrV_one (p : Bys × Nat) : oneAll (wrV p) = true := by
  rw [oneAll_iff]
  intro v hv
  rcases List.mem_append.1 hv with hv | hv
  · exact oneAll_iff.1 (bytesV_one _) v hv
  · rw [List.mem_singleton] at hv; subst hv; rfl
theorem cur_hit {D : Dsk} {i : Nat} (hi : i < D.wait.length) {at_ : Nat} (hno : ∀ p ∈ D.wait.drop (i + 1), p.2 ≠ at_) (he : D.wait[i].2 = at_) : curF D at_ = D.wait[i].1 := by
  have hsp : D.wait = D.wait.take i ++ (D.wait[i] :: D.wait.drop (i + 1)) := by rw [List.getElem_cons_drop, List.take_append_drop]
  have hf : D.wait.reverse.find? (fun p => decide (p.2 = at_)) = some D.wait[i] := by
    conv => lhs; rw [hsp]
    rw [List.reverse_append, List.reverse_cons, List.append_assoc, List.find?_append, List.find?_eq_none.2 fun x hx => by simpa using hno x (List.mem_reverse.1 hx)]
    simp [he]
  unfold curF
  rw [hf]; rfl
theorem cur_none {D : Dsk} {at_ : Nat} (hno : ∀ p ∈ D.wait, p.2 ≠ at_) : curF D at_ = D.on.getD at_ [] := by
  have hf : D.wait.reverse.find? (fun p => decide (p.2 = at_)) = none := List.find?_eq_none.2 fun x hx => by simpa using hno x (List.mem_reverse.1 hx)
  unfold curF
  rw [hf]; rfl
theorem read_calls (d : Dk) (ok : d.D.Ok) (hlive : d.D.dead = false) (at_ : Nat) (hat : at_ < d.D.on.length) (hwl : d.D.wait.length ≤ 1000000000) (w : World) (h : Here (dkI d) w) :
    Ct Tryz.prog 68 #[.pointer (some ⟨d.b, 0, none⟩), .int .i64 at_] w none' (fun b : Nat => .tuple #[.slice (some ⟨b, 0, none⟩) 512 512, .int .i64 0]) (fun _ => True) (fun b => [rdI b (curF d.D at_)]) := by
  refine ct_of [_, _] Tryz.func68 rfl rfl ?_
  simp only [argSlots, Nat.reduceAdd]
  have hmany := ok.many
  refine goA ?_
  refine l_opg rfl (o_pure rfl (by kernel_rfl) rfl (fun w1 hw1 => power_calls d w1 (h.keep hw1))) fun _ => ?_
  rw [hlive]
  refine goA ?_
  refine l_opg rfl (o_pure rfl (by kernel_rfl) rfl (fun w1 hw1 => has_calls d at_ (by omega) w1 (h.keep hw1))) fun _ => ?_
  rw [if_pos hat]
  refine l_op rfl (o_buildslice rfl rfl rfl rfl rfl rfl) fun ⟨bq, hbq⟩ => ?_
  refine l_opg rfl (o_pure rfl (by kernel_rfl) rfl (fun w1 hw1 => first_calls [0, 0] (some ⟨bq, 0, none⟩) 2 (by simp) w1 (own_Rd (o := some (bq, 2)) (hw1.item _ (.head _)).1))) fun _ => ?_
  rw [show firstE [0, 0] = 0 from rfl]
  refine goA ?_
  have hvl := (own_val (h.1.1 (own 152 513 d.w d.D.wait.length (rowsV wrV d.D.wait)) (.tail _ (.tail _ (.head _)))).1).1
  have h3 : (dkCells d)[3]? = some (.slice (slA d.w) d.D.wait.length (slC d.w)) := by rw [← hvl]; rfl
  refine l_w rfl (v_load rfl rfl (fun w' hw' => dk_at (h.keep hw') 3 h3)) ?_
  refine goA ?_
  refine l_w rfl (v_subI rfl rfl (by omega)) ?_
  refine goA ?_
  refine t_for (α := Nat) (fun k => [(0, .pointer (some ⟨d.b, 0, none⟩)), (1, .int .i64 at_), (7, .int .i64 (dnI k))]) (fun k => k ≤ d.D.wait.length ∧ ∀ p ∈ d.D.wait.drop k, p.2 ≠ at_) (fun _ => []) (fun k => k) d.D.wait.length ⟨rfl, rfl, by rw [dnI_eq]; rfl, trivial⟩ ⟨Nat.le_refl _, by rw [List.drop_length]; exact fun _ h => nomatch h⟩ (fun w' hw' => hw'.pick [] rfl rfl) fun k ⟨hk, hno⟩ => ?_
  cases k with
  | zero =>
    rw [cur_none hno, show dnI 0 = -1 from rfl]
    refine goA ?_
    refine l_ctg rfl rfl (by kernel_rfl) rfl (fun w1 hw1 => raw_calls d ok at_ hat w1 (h.keep hw1)) fun x hx => ?_
    refine goA ?_
    exact x_ct2 x rfl rfl rfl rfl trivial (.refl _) (by simp [rdI_stable])
  | succ j =>
    have hj : j < d.D.wait.length := hk
    obtain ⟨bw, cw, hbw, hrow⟩ := dk_wait h ok hj
    have hsz := ok.wsize _ (List.getElem_mem hj)
    have hhit := cur_hit hj hno
    have hdr : d.D.wait.drop j = d.D.wait[j] :: d.D.wait.drop (j + 1) := (List.getElem_cons_drop ..).symm
    rw [hbw] at h3
    generalize d.D.wait[j] = p at hrow hsz hhit hdr
    have hwl' := wrV_len hsz.1
    rw [show dnI (j + 1) = (j : Int) from rfl]
    refine goA ?_
    refine l_w rfl (v_load rfl rfl (fun w' hw' => dk_at (h.keep hw') 3 h3)) ?_
    refine goA ?_
    rw [Nat.zero_add]
    refine l_w rfl (v_loadc (xs := wrV p) rfl (by rw [hwl']; rfl) (fun w' hw' => rangeAt_old hrow (fun h => h) hw')) ?_
    refine l_alloca rfl rfl fun b8 hb8 => ?_
    refine l_op rfl (o_storea (cs' := (wrV p).toArray) rfl rfl rfl (by rw [List.size_toArray, hwl']; rfl) (wrV_one _) (by rw [List.size_toArray, hwl']; rfl)) fun _ => ?_
    refine goA ?_
    refine l_w rfl (v_load rfl rfl (fun w' hw' => (wr_at hsz.1 (rangeAt_pt (hw'.get (b := b8) (.head _))) :))) ?_
    refine goA ?_
    by_cases he : p.2 = at_
    · rw [hhit he]
      refine goA ?_
      refine l_w rfl (v_slarr (n := 512) rfl rfl rfl rfl) ?_
      refine goA ?_
      refine x_imp (m' := [rdI b8 p.1]) (fun w' hw' => hw'.imp (fun _ h => h) (fun hp => ⟨wr_bytes (rangeAt_pt hp), (Array.getElem?_eq_some_iff.1 hp).1⟩) ((rdI_stable _ _).ro _)) ?_
      exact x_ct2 b8 rfl rfl rfl rfl trivial (.refl _) (by simp [rdI_stable])
    · refine goA ?_
      refine l_w rfl (v_subI rfl rfl (by omega)) ?_
      refine goA ?_
      exact x_round j ⟨rfl, rfl, by rw [dnI_eq]; rfl, trivial⟩ ⟨by omega, fun q hq => by
        rw [hdr] at hq
        rcases List.mem_cons.1 hq with rfl | hq
        · exact he
        · exact hno q hq⟩ (fun w' hw' => hw'.pick [] rfl rfl) (by omega)
end Go.Proofs.YtplhamichcnmmaaGreatDoor

namespace Go.Eng
open Go.RowKit
theorem v_addUw {P : Program} {l : Slots} {H : World → Prop} {x y : Operand} {T U ty : TypeId} {a b : Nat} (hx : evO l x = some (.int .u64 (a : Int))) (hy : evO l y = some (.int .u64 (b : Int))) : OV P (.binOp .add T x y U) ty l H (.int .u64 (((a + b) % 18446744073709551616 : Nat) : Int)) := v_bin hx hy fun w => val_int w (by rw [← Int.natCast_add]; exact u64_wrap_nat _)
end Go.Eng
namespace Go.Proofs.YtplhamichcnmmaaGreatDoor
open Go.RowKit Go.Eng
set_option maxRecDepth 100000
set_option maxHeartbeats 40000000
def keepB (k : Bys) (i : Nat) : Bool := decide (i / 8 < k.length) && decide ((k.getD (i / 8) 0).toNat / 2 ^ (i % 8) % 2 = 1)
def appN (on : List Bys) (ws : List (Bys × Nat)) (f : Nat → Bool) : Nat → List Bys
  | 0 => on
  | k + 1 => if f k then (appN on ws f k).set (ws.getD k ([], 0)).2 (ws.getD k ([], 0)).1 else appN on ws f k
theorem appN_len (on : List Bys) (ws : List (Bys × Nat)) (f : Nat → Bool) : ∀ k, (appN on ws f k).length = on.length
  | 0 => rfl
  | k + 1 => by
    rw [appN]
    split
    · rw [List.length_set, appN_len]
    · exact appN_len on ws f k
theorem appN_512 {D : Dsk} (ok : D.Ok) (f : Nat → Bool) : ∀ k, k ≤ D.wait.length → ∀ s ∈ appN D.on D.wait f k, s.length = 512
  | 0, _ => ok.size
  | k + 1, hk => fun s hs => by
    have hw := (ok.wsize _ (List.getElem_mem (show k < D.wait.length from hk))).1
    rw [appN] at hs
    split at hs
    · rcases List.mem_or_eq_of_mem_set hs with hs | rfl
      · exact appN_512 ok f k (by omega) s hs
      · rwa [List.getD_eq_getElem?_getD, List.getElem?_eq_getElem (show k < D.wait.length from hk)]
    · exact appN_512 ok f k (by omega) s hs
def goesF (D : Dsk) (keep : Bys) : Dsk := ⟨appN D.on D.wait (keepB keep) D.wait.length, [], none, [], true⟩
def flushF (D : Dsk) : Dsk := { D with on := appN D.on D.wait (fun _ => true) D.wait.length, wait := [] }
def actF (D : Dsk) : Nat × Dsk := match D.left with
  | none => (0, D)
  | some 0 => (4, goesF D D.keep)
  | some (n + 1) => (0, { D with left := some n })
theorem goes_ok {D : Dsk} (ok : D.Ok) (keep : Bys) : (goesF D keep).Ok :=
  ⟨appN_512 ok _ _ (Nat.le_refl _), fun _ h => (nomatch h), by show (appN _ _ _ _).length ≤ _; rw [appN_len]; exact ok.many, fun n h => (nomatch h)⟩
theorem flush_ok {D : Dsk} (ok : D.Ok) : (flushF D).Ok :=
  ⟨appN_512 ok _ _ (Nat.le_refl _), fun _ h => (nomatch h), by show (appN _ _ _ _).length ≤ _; rw [appN_len]; exact ok.many, ok.left⟩
theorem act_ok {D : Dsk} (ok : D.Ok) : (actF D).2.Ok := by
  unfold actF
  split
  · exact ok
  · exact goes_ok ok _
  · rename_i n hn
    exact ⟨ok.size, ok.wsize, ok.many, fun k hk => by cases hk; have := ok.left _ hn; omega⟩
theorem secsV_len {L : List Bys} (hL : ∀ s ∈ L, s.length = 512) : (secsV L).length = L.length * 512 := by
  induction L with
  | nil => rfl
  | cons x L ih =>
    have e : secsV (x :: L) = bytesV x ++ secsV L := by simp [secsV]
    rw [e, List.length_append, ih fun q hq => hL q (by simp [hq]), bytesV_length, hL x (by simp), List.length_cons]; omega
theorem secsV_set {l : List Bys} (h : ∀ s ∈ l, s.length = 512) {i : Nat} (hi : i < l.length) {s : Bys} (hs : s.length = 512) : put (secsV l) (i * 512) (bytesV s) = secsV (l.set i s) := by
  have hsp : l.take i ++ (l[i] :: l.drop (i + 1)) = l := by rw [List.getElem_cons_drop, List.take_append_drop]
  have e := secsV_split (l.take i) l[i] (l.drop (i + 1))
  rw [hsp] at e
  have hlt : (secsV (l.take i)).length = i * 512 := by rw [secsV_len fun s hs => h s (List.mem_of_mem_take hs), List.length_take, Nat.min_eq_left (by omega)]
  have hset : l.set i s = l.take i ++ (s :: l.drop (i + 1)) := by rw [List.set_eq_take_append_cons_drop, if_pos hi]
  rw [hset, secsV_split, e]
  unfold put
  have hb : (bytesV l[i]).length = 512 := by rw [bytesV_length, h _ (List.getElem_mem hi)]
  rw [bytesV_length, hs, ← hlt, List.take_left, ← List.drop_drop, List.drop_left, ← hb, List.drop_left, List.append_assoc]
theorem wait_row {D : Dsk} (ok : D.Ok) {i : Nat} (hi : i < D.wait.length) {w : World} {b c : Nat} (hp : (own 152 513 (some (b, c)) D.wait.length (rowsV wrV D.wait)).prop w) : w.rangeAt b (i * 513) (wrV D.wait[i]) := fun j v hj => by
  have hsz : ∀ p ∈ D.wait, (wrV p).length = 513 := fun p hp => wrV_len (ok.wsize p hp).1
  have hl : ∀ L : List (Bys × Nat), (∀ p ∈ L, (wrV p).length = 513) → (rowsV wrV L).length = L.length * 513 := by
    intro L
    induction L with
    | nil => intro _; rfl
    | cons x L ih =>
      intro hL
      rw [rowsV_cons, List.length_append, ih fun q hq => hL q (by simp [hq]), hL x (by simp), List.length_cons]; omega
  have h5 : j < 513 := by have := (List.getElem?_eq_some_iff.1 hj).1; rwa [hsz _ (List.getElem_mem hi)] at this
  have hsp : D.wait.take i ++ (D.wait[i] :: D.wait.drop (i + 1)) = D.wait := by rw [List.getElem_cons_drop, List.take_append_drop]
  have e : rowsV wrV (D.wait.take i ++ (D.wait[i] :: D.wait.drop (i + 1))) = rowsV wrV (D.wait.take i) ++ (wrV D.wait[i] ++ rowsV wrV (D.wait.drop (i + 1))) := by rw [rowsV_append, rowsV_cons]
  rw [hsp] at e
  have h2 := rangeAt_own hp (i * 513 + j) v ?_
  · rwa [Nat.zero_add] at h2
  · rw [e, List.getElem?_append_right (by rw [hl _ fun p hp => hsz p (List.mem_of_mem_take hp), List.length_take, Nat.min_eq_left (by omega)]; omega), hl _ fun p hp => hsz p (List.mem_of_mem_take hp), List.length_take, Nat.min_eq_left (by omega), Nat.add_sub_cancel_left, List.getElem?_append_left (by rw [hsz _ (List.getElem_mem hi)]; exact h5)]
    exact hj
theorem wr_cell {p : Bys × Nat} (h5 : p.1.length = 512) : (wrV p)[512]? = some (.int .i64 (p.2 : Int)) := by
  rw [wrV, List.getElem?_append_right (by rw [bytesV_length]; omega), bytesV_length, h5]; rfl
theorem goes_calls (d : Dk) (ok : d.D.Ok) (keep : Bys) (hk : keep.length ≤ 1000000) (hwl : d.D.wait.length ≤ 1000000000) (w : World) (hw : ∀ it ∈ [dkI d], Here it w) :
    Ct Tryz.prog 82 #[.pointer (some ⟨d.b, 0, none⟩), .string ⟨keep.toArray⟩] w (foots [dkI d]) (fun _ : Unit => .tuple #[]) (fun _ => True) (fun _ => [dkI { d with w := none, D := goesF d.D keep }]) := by
  refine cu_of [_, _] _ Tryz.func82 rfl rfl hw (.cons (fun _ h => nomatch h) .nil) ?_
  simp only [argSlots, Nat.reduceAdd]
  have hmany := ok.many
  have hkl := bal keep
  refine t_imp (m' := dkL d) (fun w' hw' => by have := hw'.open1; rwa [List.append_nil] at this) ?_
  unfold dkL
  refine t_fact (fun w' hw' => own_val (hw'.item (own 152 513 d.w d.D.wait.length (rowsV wrV d.D.wait)) (by simp)).1) fun ⟨hv, hc⟩ => ?_
  have h3 : (dkCells d)[3]? = some (.slice (slA d.w) d.D.wait.length (slC d.w)) := by rw [← hv]; rfl
  have h2 : (dkCells d)[2]? = some (.slice (some ⟨d.onB, 0, none⟩) d.D.on.length d.D.on.length) := rfl
  refine goA ?_
  rw [hv]
  refine goA ?_
  refine t_for (α := Nat) (fun i => [(0, .pointer (some ⟨d.b, 0, none⟩)), (1, .string ⟨keep.toArray⟩), (9, .slice (slA d.w) d.D.wait.length (slC d.w)), (10, .int .i64 d.D.wait.length), (11, .int .i64 i)]) (fun i => i ≤ d.D.wait.length)
    (fun i => [pt d.onB (.cells (secsV (appN d.D.on d.D.wait (keepB keep) i)).toArray 150 (0, 0)), own 152 513 d.w d.D.wait.length (rowsV wrV d.D.wait), pt d.b (.cells (dkCells d).toArray 100 (0, 0))]) (fun i => d.D.wait.length - i) 0 ⟨rfl, rfl, rfl, rfl, rfl, trivial⟩ (Nat.zero_le _) (fun w' hw' => hw'.pick [1, 2, 0] rfl rfl) fun i hi => ?_
  by_cases hi2 : i < d.D.wait.length
  · obtain ⟨bw, cw, hbw⟩ : ∃ b c, d.w = some (b, c) := by
      cases h : d.w with
      | none => rw [h, show slC none = 0 from rfl] at hc; omega
      | some bc => exact ⟨bc.1, bc.2, rfl⟩
    rw [hbw]
    have hrow := fun (w' : World) (hp : (own 152 513 (some (bw, cw)) d.D.wait.length (rowsV wrV d.D.wait)).prop w') => wait_row ok hi2 hp
    have hsz := ok.wsize _ (List.getElem_mem hi2)
    have hgd : d.D.wait.getD i ([], 0) = d.D.wait[i] := by rw [List.getD_eq_getElem?_getD, List.getElem?_eq_getElem hi2]; rfl
    have hup : appN d.D.on d.D.wait (keepB keep) (i + 1) = if keepB keep i then (appN d.D.on d.D.wait (keepB keep) i).set d.D.wait[i].2 d.D.wait[i].1 else appN d.D.on d.D.wait (keepB keep) i := by rw [appN, hgd]
    have h512 := appN_512 ok (keepB keep) i hi
    have hal := appN_len d.D.on d.D.wait (keepB keep) i
    generalize appN d.D.on d.D.wait (keepB keep) i = L at hup h512 hal ⊢
    generalize d.D.wait[i] = p at hrow hsz hup
    have hwl' := wrV_len hsz.1
    have hbl : (bytesV p.1).length = 512 := by rw [bytesV_length, hsz.1]
    have hsl := secsV_len h512
    refine goA ?_
    refine l_w rfl (v_loadc (xs := wrV p) rfl (by rw [hwl']; rfl) (fun w' hw' => by rw [Nat.zero_add]; exact hrow w' (hw'.item _ (.tail _ (.head _))).1)) ?_
    refine l_alloca rfl rfl fun b5 hb5 => ?_
    refine goA ?_
    refine l_op rfl (o_storea (cs' := (wrV p).toArray) rfl rfl rfl (by rw [List.size_toArray, hwl']; rfl) (wrV_one _) (by rw [List.size_toArray, hwl']; rfl)) fun _ => ?_
    refine l_nil (x_then ?_)
    refine t_seq ?_
    refine t_join (w0 := w) (F := foots [dkI d]) (α := Unit) (fun _ => [(0, .pointer (some ⟨d.b, 0, none⟩)), (1, .string ⟨keep.toArray⟩), (9, .slice (slA (some (bw, cw))) d.D.wait.length (slC (some (bw, cw)))), (10, .int .i64 d.D.wait.length), (11, .int .i64 i), (5, .pointer (some ⟨b5, 0, none⟩)), (31, .bool (keepB keep i))]) (fun _ => True)
      (fun _ => [pt b5 (.cells (wrV p).toArray 152 (0, 0)), pt d.onB (.cells (secsV L).toArray 150 (0, 0)), own 152 513 (some (bw, cw)) d.D.wait.length (rowsV wrV d.D.wait), pt d.b (.cells (dkCells d).toArray 100 (0, 0))]) ?_ fun _ _ => ?_
    · have hkb : keepB keep i = (decide (i / 8 < keep.length) && decide ((keep.getD (i / 8) 0).toNat / 2 ^ (i % 8) % 2 = 1)) := rfl
      by_cases h8 : i / 8 < keep.length
      · have h8' : i / 8 < (⟨keep.toArray⟩ : ByteArray).size := by rw [hkl]; exact h8
        have hget : ((⟨keep.toArray⟩ : ByteArray)[i / 8]).toNat = (keep.getD (i / 8) 0).toNat := by
          rw [List.getD_eq_getElem?_getD, List.getElem?_eq_getElem h8]; rfl
        have hb := (keep.getD (i / 8) 0).toNat_lt
        rw [decide_eq_true h8, Bool.true_and] at hkb
        rw [hkb]
        generalize (keep.getD (i / 8) 0).toNat = c at hget hb
        have hq : c / 2 ^ (i % 8) < 256 := Nat.lt_of_le_of_lt (Nat.div_le_self _ _) hb
        rw [← hget] at hq ⊢
        generalize hQ : ((⟨keep.toArray⟩ : ByteArray)[i / 8]).toNat / 2 ^ (i % 8) = q at hq
        refine goA ?_
        simp only [hQ]
        refine goA ?_
        refine x_join () ⟨rfl, rfl, rfl, rfl, rfl, rfl, ?_, trivial⟩ trivial (fun w' hw' => hw')
        refine congrArg (fun z => some (Value.bool z)) ?_
        rw [Nat.and_one_is_mod]
        by_cases h1 : q % 2 = 1
        · rw [decide_eq_true h1, h1]; rfl
        · rw [decide_eq_false h1, beq_eq_false_iff_ne]; omega
      · rw [decide_eq_false h8, Bool.false_and] at hkb
        rw [hkb]
        have h8' : ¬ i / 8 < (⟨keep.toArray⟩ : ByteArray).size := by rw [hkl]; exact h8
        refine goA ?_
        exact x_join () ⟨rfl, rfl, rfl, rfl, rfl, rfl, rfl, trivial⟩ trivial (fun w' hw' => hw')
    · cases hb : keepB keep i with
      | true =>
        rw [hb, if_pos rfl] at hup
        refine t_pick [1, 0, 2, 3] rfl rfl ?_
        refine goA ?_
        refine t_drawm [0, 1, 2, 3] 9 rfl rfl (by kernel_rfl) ?_
        (repeat first | (apply d_w [5, 7] rfl rfl rfl (by kernel_rfl) (fun _ h => by first | exact h | exact Hp.sub h (.cons _ (.refl _)) | exact Hp.sub h (.cons _ (.cons _ (.refl _))) | exact Hp.sub h (.cons _ (.cons _ (.cons _ (.refl _)))) | exact Hp.sub h (.cons _ (.cons _ (.cons _ (.cons _ (.refl _))))) | exact Hp.sub h (.cons _ (.cons _ (.cons _ (.cons _ (.cons _ (.refl _)))))) | exact Hp.sub h (.cons _ (.cons _ (.cons _ (.cons _ (.cons _ (.cons _ (.refl _))))))) | exact Hp.sub h (.cons_cons _ (.cons_cons _ (List.nil_sublist _))) | exact Hp.sub h (.cons _ (.cons_cons _ (.cons_cons _ (List.nil_sublist _))))); focus (first | exact v_move rfl | exact v_assign rfl | exact v_bt rfl rfl | exact v_extract rfl rfl | exact v_field0 rfl rfl | exact v_field rfl rfl | exact v_lens rfl rfl | exact v_lenstr rfl rfl | exact v_nt rfl | exact v_load1p rfl rfl (by repeat first | exact .head _ | apply List.Mem.tail) | exact v_loadn rfl rfl (by repeat first | exact .head _ | apply List.Mem.tail) rfl | exact v_loadp rfl rfl (by repeat first | exact .head _ | apply List.Mem.tail) rfl | exact v_loada rfl rfl (by repeat first | exact .head _ | apply List.Mem.tail) | exact v_eqb rfl rfl rfl | exact v_slA rfl rfl rfl | exact v_builds rfl rfl rfl rfl rfl | exact v_eqs rfl rfl | exact v_nc rfl | exact v_caps rfl rfl | exact v_eqpn rfl rfl rfl | exact v_nepn rfl rfl rfl | exact v_neps rfl rfl rfl rfl | ((first | refine v_bn rfl rfl ?_ | refine v_is1 rfl rfl rfl ?_ | refine v_ia1 rfl rfl rfl ?_ | refine v_sa rfl rfl rfl ?_ | refine v_sF rfl rfl rfl ?_ | refine v_sT rfl rfl rfl ?_ | refine v_sFT rfl rfl rfl rfl ?_ | refine v_lF rfl rfl rfl rfl ?_ | refine v_is rfl rfl rfl ?_ | refine v_ia rfl rfl rfl ?_ | refine v_lT rfl rfl rfl rfl ?_ | refine v_cv rfl rfl rfl ?_ | refine v_slLH rfl rfl rfl rfl rfl ?_ | refine v_sl3 rfl rfl rfl rfl rfl ?_); first | omega | assumption) | exact v_pT rfl rfl (by first | omega | assumption | (simp; done) | exact fun h => h (by assumption) | fail) | exact v_pF rfl rfl (by first | omega | assumption | (simp; done) | exact fun h => h (by assumption) | fail) | exact v_pickB rfl rfl rfl)) | refine d_no [5, 7] rfl rfl rfl (by kernel_rfl) (fun _ h => by first | exact h | exact Hp.sub h (.cons _ (.refl _)) | exact Hp.sub h (.cons _ (.cons _ (.refl _))) | exact Hp.sub h (.cons _ (.cons _ (.cons _ (.refl _)))) | exact Hp.sub h (.cons _ (.cons _ (.cons _ (.cons _ (.refl _))))) | exact Hp.sub h (.cons _ (.cons _ (.cons _ (.cons _ (.cons _ (.refl _)))))) | exact Hp.sub h (.cons _ (.cons _ (.cons _ (.cons _ (.cons _ (.cons _ (.refl _))))))) | exact Hp.sub h (.cons_cons _ (.cons_cons _ (List.nil_sublist _))) | exact Hp.sub h (.cons _ (.cons_cons _ (.cons_cons _ (List.nil_sublist _))))) ?_ | refine d_T [5, 7] rfl rfl rfl rfl (by first | omega | assumption | (simp; done) | exact fun h => h (by assumption) | fail) ?_ | refine d_F [5, 7] rfl rfl rfl rfl (by first | omega | assumption | (simp; done) | exact fun h => h (by assumption) | fail) ?_)
        refine d_v [7] rfl rfl (by kernel_rfl) (fun _ h => by first | exact h | exact Hp.sub h (.cons _ (.refl _)) | exact Hp.sub h (.cons _ (.cons _ (.refl _))) | exact Hp.sub h (.cons _ (.cons _ (.cons _ (.refl _)))) | exact Hp.sub h (.cons _ (.cons _ (.cons _ (.cons _ (.refl _))))) | exact Hp.sub h (.cons _ (.cons _ (.cons _ (.cons _ (.cons _ (.refl _)))))) | exact Hp.sub h (.cons _ (.cons _ (.cons _ (.cons _ (.cons _ (.cons _ (.refl _))))))) | exact Hp.sub h (.cons_cons _ (.cons_cons _ (List.nil_sublist _))) | exact Hp.sub h (.cons _ (.cons_cons _ (.cons_cons _ (List.nil_sublist _))))) rfl rfl (v_loadp rfl rfl (.tail _ (.head _)) (by rw [List.getElem?_toArray]; exact wr_cell hsz.1)) ?_
        (repeat first | (apply d_w [7] rfl rfl rfl (by kernel_rfl) (fun _ h => by first | exact h | exact Hp.sub h (.cons _ (.refl _)) | exact Hp.sub h (.cons _ (.cons _ (.refl _))) | exact Hp.sub h (.cons _ (.cons _ (.cons _ (.refl _)))) | exact Hp.sub h (.cons _ (.cons _ (.cons _ (.cons _ (.refl _))))) | exact Hp.sub h (.cons _ (.cons _ (.cons _ (.cons _ (.cons _ (.refl _)))))) | exact Hp.sub h (.cons _ (.cons _ (.cons _ (.cons _ (.cons _ (.cons _ (.refl _))))))) | exact Hp.sub h (.cons_cons _ (.cons_cons _ (List.nil_sublist _))) | exact Hp.sub h (.cons _ (.cons_cons _ (.cons_cons _ (List.nil_sublist _))))); focus (first | exact v_move rfl | exact v_assign rfl | exact v_bt rfl rfl | exact v_extract rfl rfl | exact v_field0 rfl rfl | exact v_field rfl rfl | exact v_lens rfl rfl | exact v_lenstr rfl rfl | exact v_nt rfl | exact v_load1p rfl rfl (by repeat first | exact .head _ | apply List.Mem.tail) | exact v_loadn rfl rfl (by repeat first | exact .head _ | apply List.Mem.tail) rfl | exact v_loadp rfl rfl (by repeat first | exact .head _ | apply List.Mem.tail) rfl | exact v_loada rfl rfl (by repeat first | exact .head _ | apply List.Mem.tail) | exact v_eqb rfl rfl rfl | exact v_slA rfl rfl rfl | exact v_builds rfl rfl rfl rfl rfl | exact v_eqs rfl rfl | exact v_nc rfl | exact v_caps rfl rfl | exact v_eqpn rfl rfl rfl | exact v_nepn rfl rfl rfl | exact v_neps rfl rfl rfl rfl | ((first | refine v_bn rfl rfl ?_ | refine v_is1 rfl rfl rfl ?_ | refine v_ia1 rfl rfl rfl ?_ | refine v_sa rfl rfl rfl ?_ | refine v_sF rfl rfl rfl ?_ | refine v_sT rfl rfl rfl ?_ | refine v_sFT rfl rfl rfl rfl ?_ | refine v_lF rfl rfl rfl rfl ?_ | refine v_is rfl rfl rfl ?_ | refine v_ia rfl rfl rfl ?_ | refine v_lT rfl rfl rfl rfl ?_ | refine v_cv rfl rfl rfl ?_ | refine v_slLH rfl rfl rfl rfl rfl ?_ | refine v_sl3 rfl rfl rfl rfl rfl ?_); first | omega | assumption) | exact v_pT rfl rfl (by first | omega | assumption | (simp; done) | exact fun h => h (by assumption) | fail) | exact v_pF rfl rfl (by first | omega | assumption | (simp; done) | exact fun h => h (by assumption) | fail) | exact v_pickB rfl rfl rfl)) | refine d_no [7] rfl rfl rfl (by kernel_rfl) (fun _ h => by first | exact h | exact Hp.sub h (.cons _ (.refl _)) | exact Hp.sub h (.cons _ (.cons _ (.refl _))) | exact Hp.sub h (.cons _ (.cons _ (.cons _ (.refl _)))) | exact Hp.sub h (.cons _ (.cons _ (.cons _ (.cons _ (.refl _))))) | exact Hp.sub h (.cons _ (.cons _ (.cons _ (.cons _ (.cons _ (.refl _)))))) | exact Hp.sub h (.cons _ (.cons _ (.cons _ (.cons _ (.cons _ (.cons _ (.refl _))))))) | exact Hp.sub h (.cons_cons _ (.cons_cons _ (List.nil_sublist _))) | exact Hp.sub h (.cons _ (.cons_cons _ (.cons_cons _ (List.nil_sublist _))))) ?_ | refine d_T [7] rfl rfl rfl rfl (by first | omega | assumption | (simp; done) | exact fun h => h (by assumption) | fail) ?_ | refine d_F [7] rfl rfl rfl rfl (by first | omega | assumption | (simp; done) | exact fun h => h (by assumption) | fail) ?_)
        refine d_v [] rfl rfl (by kernel_rfl) (fun _ h => by first | exact h | exact Hp.sub h (.cons _ (.refl _)) | exact Hp.sub h (.cons _ (.cons _ (.refl _))) | exact Hp.sub h (.cons _ (.cons _ (.cons _ (.refl _)))) | exact Hp.sub h (.cons _ (.cons _ (.cons _ (.cons _ (.refl _))))) | exact Hp.sub h (.cons _ (.cons _ (.cons _ (.cons _ (.cons _ (.refl _)))))) | exact Hp.sub h (.cons _ (.cons _ (.cons _ (.cons _ (.cons _ (.cons _ (.refl _))))))) | exact Hp.sub h (.cons_cons _ (.cons_cons _ (List.nil_sublist _))) | exact Hp.sub h (.cons _ (.cons_cons _ (.cons_cons _ (List.nil_sublist _))))) rfl rfl (v_loadc (xs := bytesV p.1) rfl (by rw [hbl]; rfl) (fun w' hw' => wr_bytes (rangeAt_pt (hw'.get (b := b5) (.tail _ (.head _)))))) ?_
        refine goE ?_
        refine d_tail ⟨by kernel_rfl, by kernel_rfl⟩ rfl rfl (o_storerE (V := bytesV p.1) rfl rfl rfl rfl (by rw [hbl]; rfl) (bytesV_one _) (by rw [hbl, hsl, hal]; omega)) fun _ => ?_
        rw [Nat.zero_add, secsV_set h512 (by rw [hal]; exact hsz.2) hsz.1, ← hup]
        refine goA ?_
        exact x_round (i + 1) ⟨rfl, rfl, rfl, rfl, rfl, trivial⟩ hi2 (fun w' hw' => hw'.pick [0, 2, 3] rfl rfl) (by omega)
      | false =>
        rw [hb, if_neg (by decide)] at hup
        refine goA ?_
        exact x_round (i + 1) ⟨rfl, rfl, rfl, rfl, rfl, trivial⟩ hi2 (fun w' hw' => by rw [hup]; exact hw'.sub (.cons _ (.refl _))) (by omega)
  · obtain rfl : i = d.D.wait.length := by omega
    refine goA ?_
    refine l_op rfl (ho_perm (bring2 _ _ _ _) (o_store1 rfl rfl rfl rfl rfl rfl (show (3 : Nat) < 6 from by decide))) fun _ => ?_
    refine goA ?_
    refine l_op rfl (o_store1 rfl rfl rfl rfl rfl rfl (show (4 : Nat) < 6 from by decide)) fun _ => ?_
    refine goA ?_
    refine l_imp (m' := [pt d.b (.cells [.int .i64 (leftI d.D.left), .string ⟨d.D.keep.toArray⟩, .slice (some ⟨d.onB, 0, none⟩) d.D.on.length d.D.on.length, .slice none 0 0, .bool true, .int .u64 (d.acts : Nat)].toArray 100 (0, 0)), pt d.onB (.cells (secsV (appN d.D.on d.D.wait (keepB keep) d.D.wait.length)).toArray 150 (0, 0))]) (fun w' hw' => hw'.sub (.cons_cons _ (.cons_cons _ (.cons _ (.refl _))))) ?_
    refine l_op rfl (o_storerE (V := [.int .i64 (-1), .string ⟨#[]⟩]) rfl rfl rfl rfl rfl rfl (show (0 + 2 : Nat) ≤ 6 from by decide)) fun _ => ?_
    refine goA ?_
    have hcl : dkCells { d with w := none, D := goesF d.D keep } = put [.int .i64 (leftI d.D.left), .string ⟨d.D.keep.toArray⟩, .slice (some ⟨d.onB, 0, none⟩) d.D.on.length d.D.on.length, .slice none 0 0, .bool true, .int .u64 (d.acts : Nat)] 0 [.int .i64 (-1), .string ⟨#[]⟩] := by
      show [_, _, Value.slice _ (appN d.D.on d.D.wait (keepB keep) d.D.wait.length).length (appN d.D.on d.D.wait (keepB keep) d.D.wait.length).length, _, _, _] = _
      rw [appN_len]; rfl
    refine x_imp (m' := [dkI { d with w := none, D := goesF d.D keep }]) (fun w' hw' => Hp.close1 (m := []) (dkL_stable _) ?_) (x_ct0N () rfl rfl trivial (.refl _) (by simp [dkI, bundle_stable]))
    rw [List.append_nil]
    unfold dkL
    rw [hcl]
    exact (hp_nil1 152 513 hw').pick [1, 2, 0] rfl rfl
end Go.Proofs.YtplhamichcnmmaaGreatDoor
