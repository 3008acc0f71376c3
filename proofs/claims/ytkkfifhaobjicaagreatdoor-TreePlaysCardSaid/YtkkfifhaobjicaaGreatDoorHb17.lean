/- strings.Builder's methods, written on behind String. -/
/- strings.Repeat of one byte that is 0. -/
/- Maps that are keyed by hashes: their rows in memory, and what is looked up. -/
/- Maps keyed by hashes: making one, looking up, putting in, how many there are. -/
/- package pack, the packer: what is put. -/
/- Whether a stream may be: as the program asks it, and as the document says it. -/
import Derived.Test.YtkkfifhaobjicaaGreatDoorHb16
import Derived.Test.YtkkfifhaobjicaaGreatDoorHb03
import Derived.DeepKeys3
import Derived.Test.YtkkfifhaobjicaaGreatDoorHb12
import Derived.Test.YtkkfifhaobjicaaGreatDoorHb04
import Derived.Test.YtkkfifhaobjicaaGreatDoorProg
namespace Go.Proofs.YtkkfifhaobjicaaGreatDoor
open Go.RowKit Go.Eng
set_option maxRecDepth 100000
set_option maxHeartbeats 40000000
abbrev znp (b : Nat) (p : Option Addr) (o : Option (Nat × Nat)) (n : Nat) : Eng.Item := pt b (.cells #[.pointer p, slV o n] 228 (0, 0))
theorem zi1 (b : Nat) (p : Option Addr) (o : Option (Nat × Nat)) (n : Nat) (hp : p = none ∨ p = some ⟨b, 0, none⟩) (w : World) (hw : za2 (znp b p o n) w) :
  Ct Tryz.prog 176 #[.pointer (some ⟨b, 0, none⟩)] w (zap [znp b p o n]) (fun _ : Unit => .tuple #[]) (fun _ => True) (fun _ => [znp b (some ⟨b, 0, none⟩) o n]) := by
 unfold znp at *
 refine zbd [_] [_] Tryz.func176 rfl rfl (by simpa using hw) (.cons (fun _ h => by cases h) .nil) ?_
 simp only [zaa]
 refine goA ?_
 rcases hp with rfl | rfl
 ·refine goA ?_
  refine l_w rfl (qkg rfl rfl rfl rfl (.head _) (by simp)) ?_
  refine goA ?_
  refine l_w rfl (qpm Tryz.func190 (by kernel_rfl) (by kernel_rfl) (by kernel_rfl) (by kernel_rfl) rfl (fun w => Lib.run_noEscape w _)) ?_
  refine goA ?_
  refine l_w rfl (qll rfl rfl rfl rfl (.head _) (by kernel_rfl)) ?_
  refine goA ?_
  refine za0 rfl (zaj rfl rfl rfl rfl rfl rfl (by simp)) fun _ => ?_
  refine goA ?_
  exact zk3 () rfl rfl trivial (.refl _) (by simp [zac])
 ·refine goA ?_
  exact zk3 () rfl rfl trivial (.refl _) (by simp [zac])
theorem zwo (b : Nat) (n : Nat) (hn : n ≤ 140737488355328) (w : World) (hw : za2 (znp b (some ⟨b, 0, none⟩) none 0) w) :
  Ct Tryz.prog 177 #[.pointer (some ⟨b, 0, none⟩), .int .i64 n] w (zap [znp b (some ⟨b, 0, none⟩) none 0]) (fun _ : Nat × Nat => .tuple #[]) (fun _ => True) (fun o => [znp b (some ⟨b, 0, none⟩) (some o) 0, own 5 1 (some o) 0 []]) := by
 refine zbd [_, _] [_] Tryz.func177 rfl rfl (by simpa using hw) (.cons (fun _ h => by cases h) .nil) ?_
 simp only [zaa, Nat.reduceAdd]
 unfold znp
 refine goA ?_
 refine zfc (by kernel_rfl) ?_
 refine goE ?_
 refine zau 8 ⟨by kernel_rfl, by decide⟩ rfl rfl (qp0 (t := 32) (e := 5) rfl Tryz.func191 (by kernel_rfl) (by kernel_rfl) (by kernel_rfl) (by kernel_rfl) (by kernel_rfl) rfl rfl (by omega)) (fun _ _ h => goH h) fun ⟨⟨b2, cs⟩, h2, h3⟩ => ?_
 refine goE ?_
 refine zbs (by kernel_rfl) ?_
 refine goA ?_
 refine za0 rfl (zhw (cs := []) (cur := cs.toList) rfl rfl rfl rfl rfl (by simp) (fun _ _ => .inl rfl) (fun _ => rfl) (by simp) rfl) fun _ => ?_
 rw [ql9]
 refine goA ?_
 refine za0 rfl (zak (zci _ _ _) (zaj rfl rfl rfl rfl rfl rfl (by simp))) fun _ => ?_
 refine goA ?_
 refine zb3 (fun w hw => ((hw.perm (zci _ _ _)).ownOf (n := 0) (c := cs.size) (sz := 1) (Nat.zero_le _) h3 (by simp)).perm (zci _ _ _)) ?_
 rw [Nat.zero_mul, List.take_zero]
 exact zk3 (b2, cs.size) rfl rfl trivial (.refl _) (by simp [zac, zab])
theorem qbk (b : Nat) (n : Nat) (h0 : 0 < n) (hn : n ≤ 140737488355328) (w : World) (hw : za2 (znp b none none 0) w) :
  Ct Tryz.prog 149 #[.pointer (some ⟨b, 0, none⟩), .int .i64 n] w (zap [znp b none none 0]) (fun _ : Nat × Nat => .tuple #[]) (fun _ => True) (fun o => [znp b (some ⟨b, 0, none⟩) (some o) 0, own 5 1 (some o) 0 []]) := by
 refine zbd [_, _] [_] Tryz.func149 rfl rfl (by simpa using hw) (.cons (fun _ h => by cases h) .nil) ?_
 simp only [zaa, Nat.reduceAdd]
 unfold znp
 refine goA ?_
 refine zae rfl (zba (pre := [znp b none none 0]) rfl (by kernel_rfl) rfl (by first | (simp [zac, zab, zdn]; done) | (intro it hm; (iterate 6 (all_goals try (rcases hm with _ | ⟨_, hm⟩))) <;> first | exact zad _ | exact zac _ _ _ | exact zab _ _ _ _ _ _)) (fun w1 hw1 hh1 ha1 => zi1 b _ none 0 (.inl rfl) w1 (hh1 _ (.head _)))) fun ⟨x, hx⟩ => ?_
 unfold znp
 refine goA ?_
 (refine zfc (by kernel_rfl) ?_; refine goE ?_; refine zbs (by kernel_rfl) ?_)
 refine goA ?_
 refine zae rfl (zba (pre := [znp b (some ⟨b, 0, none⟩) none 0]) rfl (by kernel_rfl) rfl (by first | (simp [zac, zab, zdn]; done) | (intro it hm; (iterate 6 (all_goals try (rcases hm with _ | ⟨_, hm⟩))) <;> first | exact zad _ | exact zac _ _ _ | exact zab _ _ _ _ _ _)) (fun w1 hw1 hh1 ha1 => zwo b n hn w1 (hh1 _ (.head _)))) fun ⟨x, hx⟩ => ?_
 refine goA ?_
 exact zk3 x rfl rfl trivial (.refl _) (by simp [zac, zab])
abbrev blS (b : Nat) (p : Option Addr) (o : Option (Nat × Nat)) (s : Bys) : List Eng.Item := [znp b p o s.length, zqi 5 o s.length (zaf s)]
theorem zii (b : Nat) (p : Option Addr) (hp : p = none ∨ p = some ⟨b, 0, none⟩) (o : Option (Nat × Nat)) (t s : Bys) (hn : t.length + s.length ≤ 140737488355328) (w : World) (hw : ∀ it ∈ blS b p o t, za2 it w) (ha : (blS b p o t).Pairwise Eng.Item.Apart) :
  Ct Tryz.prog 150 #[.pointer (some ⟨b, 0, none⟩), .string ⟨s.toArray⟩] w (zap (blS b p o t)) (fun _ : Option (Nat × Nat) => .tuple #[.int .i64 s.length, .nilIface]) (fun _ => True) (fun o' => blS b (some ⟨b, 0, none⟩) o' (t ++ s)) := by
 refine zbd [_, _] _ Tryz.func150 rfl rfl hw ha ?_
 simp only [zaa, Nat.reduceAdd]
 have hsl := bal s
 unfold blS znp
 refine goA ?_
 refine zae rfl (zba (pre := [znp b p o t.length]) rfl (by kernel_rfl) rfl (by first | (simp [zac, zab, zdn]; done) | (intro it hm; (iterate 6 (all_goals try (rcases hm with _ | ⟨_, hm⟩))) <;> first | exact zad _ | exact zac _ _ _ | exact zab _ _ _ _ _ _)) (fun w1 hw1 hh1 ha1 => zi1 b p o t.length hp w1 (hh1 _ (.head _)))) fun ⟨x, hx⟩ => ?_
 unfold znp
 refine goA ?_
 refine za0 rfl (zak (zci _ _ _) (qe9 rfl rfl rfl rfl rfl rfl (by rw [hsl]; exact hn))) fun o' => ?_
 refine goA ?_
 refine za0 rfl (zak (zci _ _ _) (zaj rfl rfl rfl rfl (zc0 _ _) (zdf _ _) (by simp))) fun _ => ?_
 refine goA ?_
 have e1 : t.length + (⟨s.toArray⟩ : ByteArray).size = (t ++ s).length := by rw [hsl, List.length_append]
 have e2 : zaf t ++ zaf (⟨s.toArray⟩ : ByteArray).data.toList = zaf (t ++ s) := by rw [zje]
 rw [e1, e2]
 exact zdq o' rfl rfl rfl (by rw [hsl]) trivial (.refl _) (by simp [zac, zbf])
theorem qfs {w : World} {e : TypeId} {o : Option (Nat × Nat)} {s : Bys} (h : (zqi e o s.length (zaf s)).prop w) (h0 : s ≠ []) : ∃ b c, o = some (b, c) ∧ s.length ≤ c := by
 rcases h.2 with ⟨h1, h2⟩ | ⟨b, c, cur, fz, hv, -, -, -, h2, -⟩
 ·exact absurd (List.eq_nil_of_length_eq_zero h2) h0
 ·match o, hv with
  | none, hv => cases hv
  | some (b', c'), hv => cases hv; exact ⟨_, _, rfl, h2⟩
theorem zh0 (b : Nat) (p : Option Addr) (o : Option (Nat × Nat)) (s : Bys) (h0 : s ≠ []) (w : World) (hw : ∀ it ∈ blS b p o s, za2 it w) (ha : (blS b p o s).Pairwise Eng.Item.Apart) :
  Ct Tryz.prog 152 #[.pointer (some ⟨b, 0, none⟩)] w (zap (blS b p o s)) (fun _ : Unit => .string ⟨s.toArray⟩) (fun _ => True) (fun _ => blS b p o s) := by
 obtain ⟨ob, oc, rfl, hoc⟩ := qfs (hw _ (.tail _ (.head _))).1 h0
 refine zbd [_] _ Tryz.func152 rfl rfl hw ha ?_
 simp only [zaa]
 have hsl := bal s
 have hlp : 0 < s.length := by cases s with | nil => exact absurd rfl h0 | cons a l => simp
 unfold blS znp
 refine goA ?_
 refine zr1 (zci _ _ _) (qkx (by kernel_rfl) ?_)
 refine goE ?_
 refine zau 4 ⟨by kernel_rfl, by decide⟩ rfl rfl (qey rfl (qp8 rfl (by omega))) (fun _ _ h => goH h) fun _ => ?_
 refine goE ?_
 refine zau 10 ⟨by kernel_rfl, by decide⟩ rfl rfl (ql0 (s := ⟨s.toArray⟩) rfl rfl rfl rfl (by kernel_rfl) hlp hsl.symm) (fun _ _ h => goH h) fun _ => ?_
 refine goE ?_
 refine zbs (by kernel_rfl) ?_
 refine goA ?_
 refine zeh [1, 0] rfl rfl ?_
 exact zbw () rfl rfl rfl trivial (.refl _) (by simp [zac, zbf])
theorem zjo (b : Nat) (p : Option Addr) (o : Option (Nat × Nat)) (s : Bys) (w : World) (hw : ∀ it ∈ blS b p o s, za2 it w) :
  Pu Tryz.prog 151 #[.pointer (some ⟨b, 0, none⟩)] w (.int .i64 s.length) := by
 refine zbl [_] Tryz.func151 rfl rfl ?_
 simp only [zaa]
 have hvv : ∃ a c, slV o s.length = .slice a s.length c := by
  rcases (hw _ (.tail _ (.head _))).1.2 with ⟨h1, h2⟩ | ⟨b, c, cur, fz, hv, -⟩
  ·rw [h1, h2]; exact ⟨_, _, rfl⟩
  ·exact ⟨_, _, hv⟩
 obtain ⟨va, vc, hv⟩ := hvv
 refine goA ?_
 refine l_w rfl (zaz (v := slV o s.length) rfl rfl (fun w' hw' => zdx (i := 1) (((hw _ (.head _)).keep hw').1) rfl)) ?_
 rw [hv]
 refine goA ?_
 exact zc2 rfl rfl rfl
theorem zup (b : Nat) (p : Option Addr) (o : Option (Nat × Nat)) (s : Bys) (w : World) (hw : ∀ it ∈ blS b p o s, za2 it w) (ha : (blS b p o s).Pairwise Eng.Item.Apart) :
  Ct Tryz.prog 163 #[.pointer (some ⟨b, 0, none⟩)] w (zap (blS b p o s)) (fun _ : Unit => .tuple #[]) (fun _ => True) (fun _ => blS b none none []) := by
 refine zbd [_] _ Tryz.func163 rfl rfl hw ha ?_
 simp only [zaa]
 unfold blS znp
 refine goA ?_
 refine za0 rfl (zaj rfl rfl rfl rfl rfl rfl (by simp)) fun _ => ?_
 refine goA ?_
 refine za0 rfl (zaj rfl rfl rfl rfl rfl rfl (by simp)) fun _ => ?_
 refine goA ?_
 refine zb3 (m' := blS b none none []) (fun w' hw' => ?_) (zk3 () rfl rfl trivial (.refl _) (by simp [zac, zbf]))
 have h1 : Hp w _ [znp b none none ([] : Bys).length] w' := hw'.sub (.cons_cons _ (.cons _ (.refl _)))
 have h2 : Hp w _ [own 5 1 none 0 [], znp b none none ([] : Bys).length] w' := zd5 _ _ h1
 have h3 : Hp w _ [zqi 5 none 0 [], znp b none none ([] : Bys).length] w' := h2.imp (fun k h => h) (fun h => znx h) (zbf _ _ _ _ _)
 exact h3.perm (zci _ _ _)
end Go.Proofs.YtkkfifhaobjicaaGreatDoor
namespace Go.Eng
open Go.RowKit
theorem Hp.here {w0 w : World} {F : Nat → Prop} {pre m : List Item} (h : Hp w0 F (pre ++ m) w) (hs : ∀ it ∈ pre, it.Stable none') : ∀ it ∈ pre, za2 it w := fun it hm => za2.of (h.item it (List.mem_append_left _ hm)) (hs it hm)
theorem qnq {P : Program} {l : zat} {H : World → Prop} {T : Array TypeId} {ty : TypeId} {x y z : Operand} {k : IntKind} {a b c : Int} {i j q : Nat} [h : NatOf a i] [h' : NatOf b j] [h'' : NatOf c q] (hx : evO l x = some (.int k a)) (hy : evO l y = some (.int k b)) (hz : evO l z = some (.int k c)) : OV P (.call ⟨.builtin .min, #[x, y, z], T⟩) ty l H (.int k (min (min i j) q : Nat)) := ov fun _ _ _ w _ => by
 obtain rfl := h.eq; obtain rfl := h'.eq; obtain rfl := h''.eq
 simp only [execOp, resolve, invoke, builtin]
 simp only [zax hx, zax hy, zax hz, Array.map, List.map]
 have h1 : (Builtin.min_ T ty #[.int k (i : Int), .int k (j : Int), .int k (q : Int)]).run P w = .ok (.int k ((min (min i j) q : Nat) : Int)) w := by
  simp only [Builtin.min_, List.foldlM, Builtin.min2]
  by_cases h1 : (j : Int) < i
  ·by_cases h2 : (q : Int) < j
   ·simp [h1, h2]; omega
   ·simp [h1, h2]; omega
  ·by_cases h2 : (q : Int) < i
   ·simp [h1, h2]; omega
   ·simp [h1, h2]; omega
 simp [zax hx, zax hy, zax hz, h1]
end Go.Eng
namespace Go.Proofs.YtkkfifhaobjicaaGreatDoor
open Go.RowKit Go.Eng
set_option maxRecDepth 100000
set_option maxHeartbeats 40000000
theorem qok (x : Nat) (h : x < 4294967296) : x &&& 4294967295 = x := by
 rw [show (4294967295 : Nat) = 2 ^ 32 - 1 from rfl, Nat.and_two_pow_sub_one_eq_mod]
 exact Nat.mod_eq_of_lt h
theorem zxx (n : Nat) (hn : n < 65536) (w : World) : Pu Tryz.prog 174 #[.int .u64 1, .int .u64 n] w (.tuple #[.int .u64 0, .int .u64 n]) := by
 refine zbl [_, _] Tryz.func174 rfl rfl ?_
 simp only [zaa, Nat.reduceAdd]
 have h1 := qok 1 (by decide)
 have h2 := qok n (by omega)
 have h3 : n / 2 ^ 32 = 0 := Nat.div_eq_of_lt (by omega)
 have e1 : 1 / 2 ^ 32 * (n &&& 4294967295) + 1 * (n &&& 4294967295) / 2 ^ 32 = 0 := by
  rw [h2, Nat.one_mul, h3]
  omega
 refine goA ?_
 rw [h1]
 refine goA ?_
 rw [e1, Nat.zero_and]
 refine goA ?_
 rw [h3]
 refine goA ?_
 refine zg8 rfl rfl rfl ?_
 simp
theorem zto (n : Nat) (hn : n < 65536) (w : World) : Pu Tryz.prog 147 #[.int .u64 1, .int .u64 n] w (.tuple #[.int .u64 0, .int .u64 n]) := by
 refine zbl [_, _] Tryz.func147 rfl rfl ?_
 simp only [zaa, Nat.reduceAdd]
 refine goA ?_
 refine zae rfl (zag rfl (by kernel_rfl) rfl (fun w1 hw1 => zxx n hn w1)) fun _ => ?_
 refine goA ?_
 exact zg8 rfl rfl rfl rfl
theorem zis (n : Nat) (hn : n ≤ 8192) (w : World) : Pu Tryz.prog 109 #[.string ⟨#[0]⟩, .int .i64 n] w (.string ⟨(List.replicate n (0 : UInt8)).toArray⟩) := by
 refine zbl [_, _] Tryz.func109 rfl rfl ?_
 simp only [zaa, Nat.reduceAdd]
 refine goA ?_
 by_cases h0 : n = 0
 ·subst h0
  refine goA ?_
  exact zc2 rfl rfl rfl
 by_cases h1 : n = 1
 ·subst h1
  refine goA ?_
  exact zc2 rfl rfl rfl
 have hs : (⟨#[0]⟩ : ByteArray).size = 1 := rfl
 refine goA ?_
 rw [hs]
 refine zae rfl (zag rfl (by kernel_rfl) rfl (fun w1 hw1 => zto n (by omega) w1)) fun _ => ?_
 refine goA ?_
 have hz : ∀ h, ((⟨#[0]⟩ : ByteArray)[0]'h).toNat = 0 := fun _ => rfl
 simp only [hz]
 refine goA ?_
 refine zan rfl rfl fun b9 hb9 => ?_
 refine goA ?_
 refine zae rfl (zba (pre := [znp b9 none none 0]) rfl (by kernel_rfl) rfl (by first | (simp [zac, zab, zdn]; done) | (intro it hm; (iterate 6 (all_goals try (rcases hm with _ | ⟨_, hm⟩))) <;> first | exact zad _ | exact zac _ _ _ | exact zab _ _ _ _ _ _)) (fun w1 hw1 hh1 ha1 => qbk b9 n (by omega) (by omega) w1 (hh1 _ (.head _)))) fun ⟨x, hx⟩ => ?_
 obtain ⟨o0, ho0⟩ : ∃ o : Option (Nat × Nat), some x = o := ⟨_, rfl⟩
 rw [ho0]
 refine ze1 (m' := blS b9 (some ⟨b9, 0, none⟩) o0 []) (fun w' hw' => (Hp.imp (it' := zqi 5 o0 0 []) (hw'.perm (zci _ _ _)) (fun k h => h) (fun h => znx h) (zbf _ _ _ _ _)).perm (zci _ _ _)) ?_
 refine goA ?_
 refine zae rfl (zba (pre := blS b9 (some ⟨b9, 0, none⟩) o0 []) rfl (by kernel_rfl) rfl (by simp [zac, zbf]) (fun w1 hw1 hh1 ha1 => zii b9 _ (.inr rfl) o0 [] [0] (by simp) w1 hh1 ha1)) fun ⟨x, hx⟩ => ?_
 refine goA ?_
 refine zct (α := Nat × Option (Nat × Nat)) (fun y => [(7, .int .i64 n), (8, .int .i64 n), (9, .pointer (some ⟨b9, 0, none⟩))]) (fun y => 1 ≤ y.1 ∧ y.1 ≤ n)
  (fun y => blS b9 (some ⟨b9, 0, none⟩) y.2 (List.replicate y.1 0)) (fun y => n - y.1) (1, x) ⟨rfl, rfl, rfl, trivial⟩ ⟨Nat.le_refl _, by simp only; omega⟩ (fun w' hw' => hw') fun ⟨j, o⟩ ⟨h2, h3⟩ => ?_
 simp only at h2 h3 ⊢
 have hne : List.replicate j (0 : UInt8) ≠ [] := fun e => by have := congrArg List.length e; simp at this; omega
 have hlr : (List.replicate j (0 : UInt8)).length = j := List.length_replicate ..
 have hbr := bal (List.replicate j (0 : UInt8))
 rw [hlr] at hbr
 by_cases hj : j < n
 ·refine goA ?_
  refine zae rfl (zag rfl (by kernel_rfl) rfl (fun w1 hw1 => zjo b9 _ o _ w1 (hw1.here (m := []) (by simp [zac, zbf])))) fun _ => ?_
  rw [hlr]
  refine goA ?_
  refine zae rfl (zag rfl (by kernel_rfl) rfl (fun w1 hw1 => zjo b9 _ o _ w1 (hw1.here (m := []) (by simp [zac, zbf])))) fun _ => ?_
  rw [hlr]
  refine goA ?_
  refine zae rfl (zag rfl (by kernel_rfl) rfl (fun w1 hw1 => zjo b9 _ o _ w1 (hw1.here (m := []) (by simp [zac, zbf])))) fun _ => ?_
  rw [hlr]
  refine goA ?_
  refine l_w rfl (qnq rfl rfl rfl) ?_
  refine goA ?_
  refine zae rfl (zba (pre := blS b9 (some ⟨b9, 0, none⟩) o (List.replicate j 0)) rfl (by kernel_rfl) rfl (by simp [zac, zbf]) (fun w1 hw1 hh1 ha1 => zh0 b9 _ o _ hne w1 hh1 ha1)) fun ⟨x, hx⟩ => ?_
  refine goA ?_
  generalize hc : min (min (n - j) j) n = c
  have hex : (⟨(List.replicate j (0 : UInt8)).toArray⟩ : ByteArray).extract 0 c = ⟨(List.replicate c (0 : UInt8)).toArray⟩ := qcx (by
   rw [ByteArray.data_extract]
   simp [List.extract_eq_take_drop, List.take_replicate]
   omega)
  rw [hex]
  refine zae rfl (zba (pre := blS b9 (some ⟨b9, 0, none⟩) o (List.replicate j 0)) rfl (by kernel_rfl) rfl (by simp [zac, zbf]) (fun w1 hw1 hh1 ha1 => zii b9 _ (.inr rfl) o _ (List.replicate c 0) (by simp; omega) w1 hh1 ha1)) fun ⟨o', hx⟩ => ?_
  rw [List.replicate_append_replicate]
  refine goA ?_
  exact zay (j + c, o') ⟨rfl, rfl, rfl, trivial⟩ ⟨by simp only; omega, by simp only; omega⟩ (fun w' hw' => hw') (by simp only; omega)
 ·obtain rfl : j = n := by omega
  refine goA ?_
  refine zae rfl (zag rfl (by kernel_rfl) rfl (fun w1 hw1 => zjo b9 _ o _ w1 (hw1.here (m := []) (by simp [zac, zbf])))) fun _ => ?_
  rw [hlr]
  refine goA ?_
  refine zae rfl (zba (pre := blS b9 (some ⟨b9, 0, none⟩) o (List.replicate j 0)) rfl (by kernel_rfl) rfl (by simp [zac, zbf]) (fun w1 hw1 hh1 ha1 => zh0 b9 _ o _ hne w1 hh1 ha1)) fun ⟨x, hx⟩ => ?_
  refine goA ?_
  exact zc2 rfl rfl rfl
end Go.Proofs.YtkkfifhaobjicaaGreatDoor
namespace Go.Eng
open Go.RowKit
set_option maxRecDepth 100000
variable {P : Program} {Q : Exit → Act → World → Prop} {N : Fm} {l : zat} {H : World → Prop} {ops : Array Oper} {rest : List Oper} {w0 : World} {F : Nat → Prop} {m m' : List Item} {ty : TypeId} {pos : String} {after : Array Edge} {g : Option (Nat × Bool)} {d : Nat}
section look
variable {x y z : Operand} {T k e : TypeId} {b : Nat} {A : List (List UInt8 × Value)} {h : List UInt8} {zv v : Value}
end look
end Go.Eng
namespace Go.Proofs.YtkkfifhaobjicaaGreatDoor
open Go.RowKit Go.Eng
set_option maxRecDepth 100000
set_option maxHeartbeats 40000000
theorem zpg (a : Option Addr) (n c : Nat) (bs : List UInt8) (hn : bs.length = n) (hz : n ≤ 1000000000) (w : World) (hr : Rd w a (zaf bs)) :
  Ct Tryz.prog 123 #[.slice a n c] w none' (fun o : Option (Nat × Nat) => slV o n) (fun _ => True) (fun o => [own 5 1 o n (zaf bs)]) := by
 refine zfo [_] Tryz.func123 rfl rfl ?_
 simp only [zaa]
 refine goA ?_
 refine l_w rfl (qnv rfl rfl rfl) ?_
 cases a with
 | none =>
  have hz : bs = [] := by
   rcases hr with h | ⟨b, off, h, -⟩
   ·cases bs with | nil => rfl | cons x r => simp [zaf] at h
   ·cases h
  subst hz
  subst hn
  refine goA ?_
  refine zb3 (fun w hw => zd5 5 1 hw) ?_
  exact zbw none rfl rfl rfl trivial (.cons_cons _ (List.nil_sublist _)) (by simp [zab])
 | some a =>
  refine goA ?_
  refine za0 rfl (qhr (e := 5) (sz := 1) rfl rfl rfl) fun ⟨b, hb⟩ => ?_
  refine goA ?_
  refine za0 rfl (zdj (o := some (b, 0)) (n := 0) (news := zaf bs) rfl rfl rfl rfl rfl rfl (by rw [zar, hn, Nat.mul_one]) (zel _) (by omega) (fun w' hw' j v hj => ?_)) fun o => ?_
  ·rcases hr with h | ⟨b2, off, h, h2⟩
   ·rw [h] at hj; simp at hj
   ·cases h
    rw [zc8]
    exact hw'.old (fun h => h) (h2 j v hj)
  rw [Nat.zero_add, List.nil_append]
  refine goA ?_
  exact zbw o rfl rfl rfl trivial (.cons_cons _ (List.nil_sublist _)) (by simp [zab])
abbrev pks (b : Nat) (o : Option (Nat × Nat)) (xs : List UInt8) : List Eng.Item := [own 5 1 o xs.length (zaf xs), pt b (.cells #[slV o xs.length, .int .i64 0] 191 (0, 0))]
theorem zln (w : World) : Ct Tryz.prog 79 #[] w none' (fun b : Nat => .pointer (some ⟨b, 0, none⟩)) (fun _ => True) (fun b => pks b none []) := by
 refine zfo [] Tryz.func79 rfl rfl ?_
 simp only [zaa]
 refine goA ?_
 refine zb0 rfl rfl fun b hb => ?_
 refine goA ?_
 refine zb3 (fun w hw => zd5 5 1 hw) ?_
 exact zbw b rfl rfl rfl trivial (.refl _) (by simp [zab, zac])
theorem zi5 (n : Nat) (h : n = 1 ∨ n = 2 ∨ n = 4 ∨ n = 8) (w : World) : Pu Tryz.prog 120 #[.int .i64 n] w (.bool true) := by
 refine zbl [_] Tryz.func120 rfl rfl ?_
 simp only [zaa]
 rcases h with rfl | rfl | rfl | rfl
 all_goals
  refine goA ?_
  exact zc2 rfl rfl rfl
theorem zjg {α : Type} (b : Nat) (o : Option (Nat × Nat)) (xs bs : List UInt8) (f : FuncId) (cs : List Value) (ad : α → Addr) (cp : α → Nat) (it : α → Eng.Item) (hst : ∀ x, (it x).Stable none') (hf : zb9 Tryz.prog f = true) (hz : xs.length + bs.length ≤ 1000000000) (w : World)
  (hw : ∀ it ∈ pks b o xs, za2 it w) (ha : (pks b o xs).Pairwise Eng.Item.Apart)
  (hmk : ∀ w1, Hp w (zap (pks b o xs)) (pks b o xs) w1 → Ct Tryz.prog f cs.toArray w1 none' (fun x : α => .slice (some (ad x)) bs.length (cp x)) (fun _ => True) (fun x => [it x]))
  (hrd : ∀ x w1, (it x).prop w1 → Fr (zap (pks b o xs)) w w1 → ∀ (j : Nat) (u : Value), (zaf bs)[j]? = some u → w1.cell? ((ad x).add j) = some u) :
  Ct Tryz.prog 119 #[.pointer (some ⟨b, 0, none⟩), .bool true, .func (.func f) #[] cs.toArray] w (zap (pks b o xs)) (fun _ : Option (Nat × Nat) => .pointer (some ⟨b, 0, none⟩)) (fun _ => True) (fun o' => pks b o' (xs ++ bs)) := by
 refine zbd [_, _, _] _ Tryz.func119 rfl rfl hw ha ?_
 simp only [zaa, Nat.reduceAdd]
 refine goA ?_
 refine zaq [1] 10 rfl rfl (by kernel_rfl) ?_
 refine goE ?_
 refine zau 6 ⟨by kernel_rfl, by decide⟩ rfl rfl (qpn (fs := []) (cs := cs) rfl hf rfl rfl rfl (fun w1 hw1 => hmk w1 hw1)) (fun _ _ h => goH h) fun ⟨x, hx⟩ => ?_
 refine goE ?_
 refine zau 7 ⟨by kernel_rfl, by decide⟩ rfl rfl (zak (zci _ _ _) (zdj (news := zaf bs) rfl rfl rfl rfl rfl rfl (by rw [zar, Nat.mul_one]) (zel _) (by omega) (fun w' hw' j v hj => hrd x w' (hw'.item (it x) (by simp)).1 hw'.fr j v hj))) (fun _ _ h => goH h) fun o' => ?_
 refine goE ?_
 refine zdk ⟨by kernel_rfl, by kernel_rfl⟩ rfl rfl (zak (zc9 _ _ _ _) (zaj rfl rfl rfl rfl (zc0 _ _) (zdf _ _) (by simp))) fun _ => ?_
 rw [← zje, ← List.length_append]
 refine goA ?_
 refine zeh [1, 0] rfl rfl ?_
 exact zbw o' rfl rfl rfl trivial (.refl _) (by simp [zab, zac])
theorem zq1 {w0 w : World} {F : Nat → Prop} {pre m : List Eng.Item} (hw : Hp w0 F (pre ++ m) w) {b : Nat} {o : Obj} (hm : pt b o ∈ m) : ¬ zap pre b := fun ⟨it, h1, h2⟩ => (List.pairwise_append.1 hw.apart).2.2 it h1 _ hm b h2 rfl
/-! ### Text -/
theorem zxl (bx : Nat) (s : ByteArray) (w : World) (hc : w.cell? ⟨bx, 0, none⟩ = some (.string s)) :
  Ct Tryz.prog 122 #[.pointer (some ⟨bx, 0, none⟩)] w none' (fun p : Nat × Nat => .slice (some ⟨p.1, 0, none⟩) s.data.toList.length p.2) (fun _ => True) (fun p => [zn9 5 s.data.toList p.1 p.2]) := by
 refine zfo [_] Tryz.func122 rfl rfl ?_
 simp only [zaa]
 refine goA ?_
 refine l_w rfl (zet rfl rfl (fun h => h) hc) ?_
 refine za0 rfl (zy3 rfl rfl rfl rfl) fun ⟨p, h1, h2⟩ => ?_
 refine goA ?_
 rw [zpr]
 exact zbw p rfl rfl rfl trivial (.cons_cons _ (List.nil_sublist _)) (by simp [zac])
theorem zgb (b : Nat) (o : Option (Nat × Nat)) (xs : List UInt8) (s : ByteArray) (hz : xs.length + s.size ≤ 1000000000) (w : World) (hw : ∀ it ∈ pks b o xs, za2 it w) (ha : (pks b o xs).Pairwise Eng.Item.Apart) :
  Ct Tryz.prog 81 #[.pointer (some ⟨b, 0, none⟩), .string s] w (zap (pks b o xs)) (fun _ : Option (Nat × Nat) => .pointer (some ⟨b, 0, none⟩)) (fun _ => True) (fun o' => pks b o' (xs ++ s.data.toList)) := by
 refine zbd [_, _] _ Tryz.func81 rfl rfl hw ha ?_
 simp only [zaa, Nat.reduceAdd]
 refine goA ?_
 refine zd2 rfl rfl rfl fun bx hbx => ?_
 refine goA ?_
 refine l_w rfl (znm rfl) ?_
 refine zju (zc9 _ _ _ _) ?_
 refine zju (zc9 _ _ _ _) ?_
 refine zae rfl (zba (pre := [own _ _ _ _ _, pt b _]) rfl (by kernel_rfl) rfl (by first | (simp [zac, zab, zdn]; done) | (intro it hm; (iterate 6 (all_goals try (rcases hm with _ | ⟨_, hm⟩))) <;> first | exact zad _ | exact zac _ _ _ | exact zab _ _ _ _ _ _)) (fun w1 hw1 hh1 ha1 => zjg b o xs s.data.toList 122 [.pointer (some ⟨bx, 0, none⟩)] (fun p : Nat × Nat => ⟨p.1, 0, none⟩) (fun p => p.2) (fun p => zn9 5 s.data.toList p.1 p.2) (fun p => zac _ _ _) (by kernel_rfl) (by rw [zpr]; exact hz) w1 hh1 ha1 (fun w2 hw2 => zxl bx s w2 (hw2.old (zq1 hw1 (.head _)) (zdx (hw1.get (.tail _ (.tail _ (.head _)))) rfl))) (fun p w2 hp _ j v hj => by rw [zc8, Nat.zero_add]; have := zk6 hp j v hj; rwa [Nat.zero_add] at this))) fun ⟨x, hx⟩ => ?_
 refine goA ?_
 exact zbw x rfl rfl rfl trivial (.cons_cons _ (.cons_cons _ (List.nil_sublist _))) (by simp [zab, zac])
/-! ### Hash -/
theorem qjg : ∀ (w n k : Nat), k < w → (beN w n)[k]? = some (UInt8.ofNat (n / 256 ^ (w - 1 - k)))
 | 0, _, _, h => by omega
 | w + 1, n, k, h => by
  rw [beN]
  by_cases hk : k < w
  ·rw [List.getElem?_append_left (by rw [zao]; exact hk), qjg w (n / 256) k hk, Nat.div_div_eq_div_mul, show w + 1 - 1 - k = (w - 1 - k) + 1 by omega, Nat.pow_succ, Nat.mul_comm]
  ·obtain rfl : k = w := by omega
   rw [List.getElem?_append_right (by rw [zao]; omega), zao, show k + 1 - 1 - k = 0 by omega, Nat.sub_self]
   simp
theorem qg3 {w n k : Nat} (h : k < w) : (beN w n).take (k + 1) = (beN w n).take k ++ [UInt8.ofNat (n / 256 ^ (w - 1 - k))] := by
 rw [List.take_add_one, qjg w n k h]; rfl
theorem qjs (j : Nat) : 2 ^ (8 * j) = 256 ^ j := by rw [Nat.pow_mul]
theorem zra (b4 b5 wd n : Nat) (h : 1 ≤ wd ∧ wd ≤ 8) (w : World) (h4 : w.cell? ⟨b4, 0, none⟩ = some (.int .i64 wd)) (h5 : w.cell? ⟨b5, 0, none⟩ = some (.int .u64 n)) :
  Ct Tryz.prog 121 #[.pointer (some ⟨b4, 0, none⟩), .pointer (some ⟨b5, 0, none⟩)] w none' (fun p : Nat × Nat => .slice (some ⟨p.1, 0, none⟩) wd p.2) (fun _ => True) (fun p => [own 5 1 (some p) wd (zaf (beN wd n))]) := by
 refine zfo [_, _] Tryz.func121 rfl rfl ?_
 simp only [zaa, Nat.reduceAdd]
 refine goA ?_
 refine l_w rfl (zet rfl rfl (fun h => h) h4) ?_
 refine goA ?_
 refine zct (α := Nat × Option (Nat × Nat)) (fun y => [(0, .pointer (some ⟨b4, 0, none⟩)), (1, .pointer (some ⟨b5, 0, none⟩)), (3, slV y.2 y.1), (4, .int .i64 ((wd : Int) - 1 - y.1))]) (fun y => y.1 ≤ wd) (fun y => [own 5 1 y.2 y.1 (zaf ((beN wd n).take y.1))]) (fun y => wd - y.1) (0, none) ⟨rfl, rfl, rfl, by show some (Value.int .i64 (((wd - 1 : Nat) : Int))) = some (Value.int .i64 ((wd : Int) - 1 - (0 : Nat))); congr 2; omega, trivial⟩ (Nat.zero_le _) (fun w' hw' => zd5 5 1 hw') fun ⟨k, o⟩ hk => ?_
 simp only at hk ⊢
 by_cases hk2 : k < wd
 ·obtain ⟨j, hj⟩ : ∃ j : Nat, (wd : Int) - 1 - k = j := ⟨wd - 1 - k, by omega⟩
  rw [hj]
  have hjw : wd - 1 - k = j := by omega
  have hj8 : j ≤ 7 := by omega
  refine goA ?_
  refine l_w rfl (zet rfl rfl (fun h => h) h5) ?_
  refine goA ?_
  refine l_w rfl (qjb rfl rfl rfl) ?_
  have hb : (Value.int .u8 ((n / 2 ^ (8 * j) % 256 : Nat) : Int)) = .int .u8 ((UInt8.ofNat (n / 256 ^ j)).toNat : Int) := by rw [qjs]; simp
  rw [hb]
  refine za0 rfl (zbc rfl rfl rfl rfl rfl rfl) fun ⟨bq, hbq⟩ => ?_
  refine goA ?_
  refine za0 rfl (zak (zci _ _ _) (zdj (news := zaf [UInt8.ofNat (n / 256 ^ j)]) rfl rfl rfl rfl rfl rfl rfl rfl (by omega) (fun w' hw' i v hi => by rw [zc8, Nat.zero_add]; exact zbo (hw'.item _ (.tail _ (.head _))).1 i v hi))) fun o' => ?_
  refine goA ?_
  refine l_w rfl (zsd rfl rfl (by omega)) ?_
  refine goA ?_
  refine zay (k + 1, o') ⟨rfl, rfl, rfl, by show some (Value.int .i64 ((j : Int) - 1)) = some (Value.int .i64 ((wd : Int) - 1 - ((k + 1 : Nat) : Int))); congr 2; omega, trivial⟩ hk2 (fun w' hw' => ?_) (by simp only; omega)
  rw [qg3 hk2, hjw, zje]
  exact hw'.sub (.cons_cons _ (List.nil_sublist _))
 ·obtain rfl : k = wd := by omega
  refine goA ?_
  have ht : (beN k n).take k = beN k n := List.take_of_length_le (by rw [zao]; exact Nat.le_refl _)
  rw [ht]
  match o with
  | none => exact qgw (fun w hw => show False by have h1 : k = 0 := (hw.item _ (.head _)).1.2; omega) fun h => h.elim
  | some o => exact zbw o rfl rfl rfl trivial (.refl _) (by simp [zab])
theorem zd7 (b : Nat) (o : Option (Nat × Nat)) (xs : List UInt8) (wd n : Nat) (hd : wd = 1 ∨ wd = 2 ∨ wd = 4) (hn : n < 256 ^ wd) (hz : xs.length ≤ 900000000) (w : World) (hw : ∀ it ∈ pks b o xs, za2 it w) (ha : (pks b o xs).Pairwise Eng.Item.Apart) :
  Ct Tryz.prog 80 #[.pointer (some ⟨b, 0, none⟩), .int .i64 wd, .int .u64 n] w (zap (pks b o xs)) (fun _ : Option (Nat × Nat) => .pointer (some ⟨b, 0, none⟩)) (fun _ => True) (fun o' => pks b o' (xs ++ beN wd n)) := by
 refine zbd [_, _, _] _ Tryz.func80 rfl rfl hw ha ?_
 simp only [zaa, Nat.reduceAdd]
 have hd8 : 1 ≤ wd ∧ wd ≤ 8 := by omega
 have hne : ¬ (wd : Int) = 8 := by omega
 have hsh : n / 2 ^ (8 * min 7 wd) = 0 := by
  rw [show min 7 wd = wd by omega, qjs]
  exact Nat.div_eq_of_lt hn
 have h7 : 8 * min 7 wd < 64 := by omega
 refine goA ?_
 refine zd2 rfl rfl rfl fun b4 hb4 => ?_
 refine goA ?_
 refine zd2 rfl rfl rfl fun b5 hb5 => ?_
 refine goA ?_
 refine zae rfl (zag rfl (by kernel_rfl) rfl (fun w1 hw1 => zi5 wd (by omega) w1)) fun _ => ?_
 refine goA ?_
 refine l_w rfl (qpq rfl rfl) ?_
 refine goA ?_
 rw [hsh]
 refine goA ?_
 refine l_w rfl (znm rfl) ?_
 refine za1 [2, 3, 1, 0] rfl rfl ?_
 refine zae rfl (zba (pre := [own _ _ _ _ _, pt b _]) rfl (by kernel_rfl) rfl (by first | (simp [zac, zab, zdn]; done) | (intro it hm; (iterate 6 (all_goals try (rcases hm with _ | ⟨_, hm⟩))) <;> first | exact zad _ | exact zac _ _ _ | exact zab _ _ _ _ _ _)) (fun w1 hw1 hh1 ha1 => zjg b o xs (beN wd n) 121 [.pointer (some ⟨b4, 0, none⟩), .pointer (some ⟨b5, 0, none⟩)] (fun p : Nat × Nat => ⟨p.1, 0, none⟩) (fun p => p.2) (fun p => own 5 1 (some p) wd (zaf (beN wd n))) (fun p => zab _ _ _ _ _ _) (by kernel_rfl) (by rw [zao]; omega) w1 hh1 ha1 (fun w2 hw2 => by rw [zao]; exact zra b4 b5 wd n hd8 w2 (hw2.old (zq1 hw1 (.head _)) (zdx (hw1.get (.tail _ (.tail _ (.head _)))) rfl)) (hw2.old (zq1 hw1 (.tail _ (.head _))) (zdx (hw1.get (.tail _ (.tail _ (.tail _ (.head _))))) rfl))) (fun p w2 hp _ j v hj => by rw [zc8, Nat.zero_add]; exact zbo hp j v hj))) fun ⟨x, hx⟩ => ?_
 refine goA ?_
 exact zbw x rfl rfl rfl trivial (.cons_cons _ (.cons_cons _ (List.nil_sublist _))) (by simp [zab, zac])
/-! ### Name -/
theorem zwm (bx : Nat) (s : ByteArray) (hs : s.size < 256) (w : World) (hc : w.cell? ⟨bx, 0, none⟩ = some (.string s)) :
  Ct Tryz.prog 193 #[.pointer (some ⟨bx, 0, none⟩)] w none' (fun p : Nat × Nat => .slice (some ⟨p.1, 0, none⟩) (1 + s.size) p.2) (fun _ => True) (fun p => [own 5 1 (some p) (1 + s.size) (zaf (beN 1 s.size ++ s.data.toList))]) := by
 refine zfo [_] Tryz.func193 rfl rfl ?_
 simp only [zaa]
 refine goA ?_
 refine l_w rfl (zet rfl rfl (fun h => h) hc) ?_
 refine goA ?_
 have hb : (Value.int .u8 (s.size : Int)) = .int .u8 ((UInt8.ofNat s.size).toNat : Int) := by simp; omega
 rw [hb]
 refine za0 rfl (zbc rfl rfl rfl rfl rfl rfl) fun ⟨bq, hbq⟩ => ?_
 refine goA ?_
 refine l_w rfl (zet rfl rfl (fun h => h) hc) ?_
 refine za0 rfl (zzd (o := some (bq, 1)) rfl rfl rfl rfl rfl rfl (by omega)) fun o' => ?_
 refine goA ?_
 match o' with
 | none => exact qgw (fun w hw => show False by have h1 : 1 + s.size = 0 := (hw.item _ (.head _)).1.2; omega) fun h => h.elim
 | some o =>
  exact zbw o rfl rfl rfl trivial (.refl _) (by simp [zab])
theorem qcd (b : Nat) (o : Option (Nat × Nat)) (xs : List UInt8) (s : ByteArray) (hs : s.size < 256) (hz : xs.length ≤ 900000000) (w : World) (hw : ∀ it ∈ pks b o xs, za2 it w) (ha : (pks b o xs).Pairwise Eng.Item.Apart) :
  Ct Tryz.prog 182 #[.pointer (some ⟨b, 0, none⟩), .string s] w (zap (pks b o xs)) (fun _ : Option (Nat × Nat) => .pointer (some ⟨b, 0, none⟩)) (fun _ => True) (fun o' => pks b o' (xs ++ (beN 1 s.size ++ s.data.toList))) := by
 refine zbd [_, _] _ Tryz.func182 rfl rfl hw ha ?_
 simp only [zaa, Nat.reduceAdd]
 have hl : (beN 1 s.size ++ s.data.toList).length = 1 + s.size := by rw [List.length_append, zao, zpr]
 refine goA ?_
 refine zd2 rfl rfl rfl fun bx hbx => ?_
 refine goA ?_
 refine zdc 8 _ (.bool true) rfl (by rw [decide_eq_true]; omega) ?_
 refine l_w rfl (znm rfl) ?_
 refine zju (zc9 _ _ _ _) ?_
 refine zju (zc9 _ _ _ _) ?_
 refine zae rfl (zba (pre := [own _ _ _ _ _, pt b _]) rfl (by kernel_rfl) rfl (by first | (simp [zac, zab, zdn]; done) | (intro it hm; (iterate 6 (all_goals try (rcases hm with _ | ⟨_, hm⟩))) <;> first | exact zad _ | exact zac _ _ _ | exact zab _ _ _ _ _ _)) (fun w1 hw1 hh1 ha1 => zjg b o xs (beN 1 s.size ++ s.data.toList) 193 [.pointer (some ⟨bx, 0, none⟩)] (fun p : Nat × Nat => ⟨p.1, 0, none⟩) (fun p => p.2) (fun p => own 5 1 (some p) (1 + s.size) (zaf (beN 1 s.size ++ s.data.toList))) (fun p => zab _ _ _ _ _ _) (by kernel_rfl) (by rw [hl]; omega) w1 hh1 ha1 (fun w2 hw2 => by rw [hl]; exact zwm bx s hs w2 (hw2.old (zq1 hw1 (.head _)) (zdx (hw1.get (.tail _ (.tail _ (.head _)))) rfl))) (fun p w2 hp _ j v hj => by rw [zc8, Nat.zero_add]; exact zbo hp j v hj))) fun ⟨x, hx⟩ => ?_
 refine goA ?_
 exact zbw x rfl rfl rfl trivial (.cons_cons _ (.cons_cons _ (List.nil_sublist _))) (by simp [zab, zac])
/-! ### Bytes -/
theorem zfe (b : Nat) (o : Option (Nat × Nat)) (xs : List UInt8) (hz : xs.length ≤ 900000000) (w : World) (hw : ∀ it ∈ pks b o xs, za2 it w) (ha : (pks b o xs).Pairwise Eng.Item.Apart) :
  Ct Tryz.prog 82 #[.pointer (some ⟨b, 0, none⟩)] w (zap (pks b o xs)) (fun o' : Option (Nat × Nat) => .tuple #[slV o' xs.length, .int .i64 0]) (fun _ => True) (fun o' => own 5 1 o' xs.length (zaf xs) :: pks b o xs) := by
 refine zbd [_] _ Tryz.func82 rfl rfl hw ha ?_
 simp only [zaa]
 refine goA ?_
 refine zea (fun w hw => (zav (hw.item (own 5 1 o xs.length (zaf xs)) (by simp)).1)) fun ⟨hsl, hcap⟩ => ?_
 rw [hsl]
 refine ze5 rfl rfl (by kernel_rfl) rfl (fun w1 hw1 => zpg (slA o) xs.length (slC o) xs rfl (by omega) w1 (zbn (hw1.item (own 5 1 o xs.length (zaf xs)) (by simp)).1)) fun x hx => ?_
 refine goA ?_
 rw [← hsl]
 exact zdq x rfl rfl rfl rfl trivial (.refl _) (by simp [zab, zac])
end Go.Proofs.YtkkfifhaobjicaaGreatDoor
namespace Go.Proofs.YtkkfifhaobjicaaGreatDoor
set_option maxRecDepth 100000
end Go.Proofs.YtkkfifhaobjicaaGreatDoor
