/- '==' between values that are made of integers, bools and strings: as their cells are. Own work; no condition. -/
import Derived.Test.YtdkonngkbbgcgaaGreatDoorMem
import Derived.Laws.StructEq
namespace Go.Eng
open Go.RowKit
variable {P : Program}
def leafEq : Value → Value → Bool
  | .int _ a, .int _ b => a == b
  | .bool a, .bool b => a == b
  | .string a, .string b => a == b
  | _, _ => false
def leafFit (P : Program) (T : TypeId) (v : Value) : Bool := match P.underlying T, v with
  | some (.int k), .int k' _ => k == k'
  | some .bool, .bool _ => true
  | some .string, .string _ => true
  | _, _ => false
/-- Are two rows of cells alike? -/
def rowEq : List Value → List Value → Bool
  | x :: xs, y :: ys => leafEq x y && rowEq xs ys
  | _, _ => true
def fitAll (P : Program) : List TypeId → List Value → Prop
  | [], vs => vs = []
  | t :: ts, v :: vs => leafFit P t v = true ∧ fitAll P ts vs
  | _ :: _, [] => False
def fieldLeaves (rec : TypeId → Option (List TypeId)) : Nat → List Field → Option (List TypeId)
  | _, [] => some []
  | off, f :: fs => if f.offset = off ∧ f.name ≠ "_" then (match rec f.type with | some ls => (match fieldLeaves rec (off + ls.length) fs with | some r => some (ls ++ r) | none => none) | none => none) else none
def reps (ls : List TypeId) : Nat → List TypeId
  | 0 => []
  | n + 1 => ls ++ reps ls n
/-- The types of a type's cells. -/
def leaves (P : Program) : Nat → TypeId → Option (List TypeId)
  | 0, _ => none
  | d + 1, T => match P.underlying T with
    | some (.int _) | some .bool | some .string => if cellsT P T = some 1 then some [T] else none
    | some (.struct fs) => if P.stoodInHeld T then none else (match cellsT P T, fieldLeaves (leaves P d) 0 fs.toList with | some n, some ls => if n = ls.length then some ls else none | _, _ => none)
    | some (.array n e) => (match leaves P d e with | some ls => if cellsT P e = some ls.length ∧ cellsT P T = some (reps ls n).length then some (reps ls n) else none | none => none)
    | _ => none
theorem fitAll_length : ∀ {ts : List TypeId} {vs : List Value}, fitAll P ts vs → vs.length = ts.length
  | [], vs, h => by simp only [fitAll] at h; simp [h]
  | _ :: ts, v :: vs, h => by simp only [fitAll] at h; simp [fitAll_length h.2]
theorem fitAll_append : ∀ {ts us : List TypeId} {vs : List Value}, fitAll P (ts ++ us) vs → ∃ a b, vs = a ++ b ∧ fitAll P ts a ∧ fitAll P us b
  | [], _, vs, h => ⟨[], vs, rfl, rfl, h⟩
  | _ :: ts, us, v :: vs, h => by
    simp only [List.cons_append, fitAll] at h
    obtain ⟨a, b, rfl, h1, h2⟩ := fitAll_append h.2
    exact ⟨v :: a, b, rfl, ⟨h.1, h1⟩, h2⟩
theorem rowEq_append : ∀ {a b c e : List Value}, a.length = c.length → rowEq (a ++ b) (c ++ e) = (rowEq a c && rowEq b e)
  | [], _, [], _, _ => by simp [rowEq]
  | x :: a, b, y :: c, e, h => by
    simp only [List.cons_append, rowEq]
    rw [rowEq_append (by simpa using h), Bool.and_assoc]
/-- The value of type T that cells make. -/
def ofCells (P : Program) (T : TypeId) (cs : List Value) : Value := match P.underlying T with
  | some (.struct _) | some (.array _ _) => .agg cs.toArray
  | _ => cs.headD undef
theorem run_part {T : TypeId} {ls : List TypeId} {D : Nat} (hl : leaves P D T = some ls) (hc : cellsT P T = some ls.length) {pre mid post : List Value} (hm : fitAll P ls mid) (w : World) : (part T (pre ++ mid ++ post).toArray pre.length).run P w = .ok (ofCells P T mid) w := by
  have hlen := fitAll_length hm
  obtain ⟨q, hq, hqs⟩ := cellsT_spec hc
  cases D with
  | zero => simp [leaves] at hl
  | succ D =>
    unfold leaves at hl
    cases hu : P.underlying T with
    | none => rw [hu] at hl; cases hl
    | some dsc =>
      have hx : (pre ++ mid ++ post).toArray.extract pre.length (pre.length + ls.length) = mid.toArray := by
        rw [← hlen]
        simp
      have one : ∀ v, mid = [v] → (pre ++ mid ++ post).toArray[pre.length]? = some v := fun v hv => by subst hv; simp
      cases dsc <;> rw [hu] at hl <;> try (cases hl; done)
      case int k =>
        obtain ⟨-, rfl⟩ : cellsT P T = some 1 ∧ ls = [T] := by
          simp only at hl; split at hl
          · rename_i h1; exact ⟨h1, by simpa using hl.symm⟩
          · cases hl
        match mid, hlen with
        | [v], _ => have := one v rfl; simp only [part, isAgg, Sem.run_bind, run_underlying hu w, Result.andThen_ok, Sem.run_pure, this, ofCells, hu]; rfl
      case bool =>
        obtain ⟨-, rfl⟩ : cellsT P T = some 1 ∧ ls = [T] := by
          simp only at hl; split at hl
          · rename_i h1; exact ⟨h1, by simpa using hl.symm⟩
          · cases hl
        match mid, hlen with
        | [v], _ => have := one v rfl; simp only [part, isAgg, Sem.run_bind, run_underlying hu w, Result.andThen_ok, Sem.run_pure, this, ofCells, hu]; rfl
      case string =>
        obtain ⟨-, rfl⟩ : cellsT P T = some 1 ∧ ls = [T] := by
          simp only at hl; split at hl
          · rename_i h1; exact ⟨h1, by simpa using hl.symm⟩
          · cases hl
        match mid, hlen with
        | [v], _ => have := one v rfl; simp only [part, isAgg, Sem.run_bind, run_underlying hu w, Result.andThen_ok, Sem.run_pure, this, ofCells, hu]; rfl
      case struct fs => simp [part, isAgg, run_underlying hu w, sizeOf, typeInfo, hq, hqs, ofCells, hu]; simpa using hx
      case array n e => simp [part, isAgg, run_underlying hu w, sizeOf, typeInfo, hq, hqs, ofCells, hu]; simpa using hx
theorem eqFields_run (d : Nat) (rec : ∀ (T : TypeId) (ls : List TypeId), leaves P d T = some ls → cellsT P T = some ls.length → ∀ (xs ys : List Value) (D : Nat) (w : World), d ≤ D → fitAll P ls xs → fitAll P ls ys → (Op.equalIn D T (ofCells P T xs) (ofCells P T ys)).run P w = .ok (rowEq xs ys) w)
    (hcells : ∀ T ls, leaves P d T = some ls → cellsT P T = some ls.length) : ∀ (fs : List Field) (ls : List TypeId) (off : Nat), fieldLeaves (leaves P d) off fs = some ls → ∀ (px py xs ys : List Value) (D : Nat) (w : World), d ≤ D → px.length = off → py.length = off → fitAll P ls xs → fitAll P ls ys →
      (Op.eqFields D (px ++ xs).toArray (py ++ ys).toArray fs).run P w = .ok (rowEq xs ys) w := by
  intro fs
  induction fs with
  | nil =>
    intro ls off h px py xs ys D w _ _ _ hx hy
    simp only [fieldLeaves, Option.some.injEq] at h
    subst h
    simp only [fitAll] at hx hy
    subst hx; subst hy
    simp [Op.eqFields, rowEq]
  | cons f fs ih =>
    intro ls off h px py xs ys D w hD hpx hpy hx hy
    simp only [fieldLeaves] at h
    split at h
    · rename_i hf
      split at h
      · rename_i la hla
        split at h
        · rename_i lb hlb
          simp only [Option.some.injEq] at h
          subst h
          obtain ⟨xa, xb, rfl, hxa, hxb⟩ := fitAll_append hx
          obtain ⟨ya, yb, rfl, hya, hyb⟩ := fitAll_append hy
          have hc := hcells _ _ hla
          have p1 := run_part (post := xb) (pre := px) hla hc hxa w
          have p2 := run_part (post := yb) (pre := py) hla hc hya w
          rw [hpx] at p1
          rw [hpy] at p2
          rw [rowEq_append (by rw [fitAll_length hxa, fitAll_length hya])]
          have hr := rec f.type la hla hc xa ya D w hD hxa hya
          have ihh := ih lb (off + la.length) hlb (px ++ xa) (py ++ ya) xb yb D w hD (by simp [hpx, fitAll_length hxa]) (by simp [hpy, fitAll_length hya]) hxb hyb
          rw [List.append_assoc] at p1 p2 ihh
          rw [List.append_assoc] at ihh
          simp only [Op.eqFields, if_pos hf.2, hf.1, Sem.run_bind, p1, p2, Result.andThen_ok, hr]
          cases hb : rowEq xa ya
          · simp
          · simp only [Bool.not_true, Bool.false_eq_true, if_false, Bool.true_and]
            exact ihh
        · cases h
      · cases h
    · cases h
theorem leaves_cells : ∀ (d : Nat) (T : TypeId) (ls : List TypeId), leaves P d T = some ls → cellsT P T = some ls.length := by
  intro d T ls h
  cases d with
  | zero => simp [leaves] at h
  | succ d =>
    unfold leaves at h
    cases hu : P.underlying T with
    | none => rw [hu] at h; cases h
    | some dsc =>
      cases dsc <;> rw [hu] at h <;> try (cases h; done)
      case struct fs =>
        simp only at h
        split at h
        · cases h
        · split at h
          · rename_i n ls' hn hls
            split at h
            · rename_i hnl; simp only [Option.some.injEq] at h; subst h; rw [hn, hnl]
            · cases h
          · cases h
      case array n e =>
        simp only at h
        split at h
        · split at h
          · rename_i hc; simp only [Option.some.injEq] at h; subst h; exact hc.2
          · cases h
        · cases h
      all_goals
        simp only at h
        split at h
        · rename_i hc; simp only [Option.some.injEq] at h; subst h; exact hc
        · cases h
theorem reps_length (ls : List TypeId) : ∀ n, (reps ls n).length = n * ls.length
  | 0 => by simp [reps]
  | n + 1 => by simp [reps, reps_length ls n, Nat.add_mul, Nat.add_comm]
/-- The loop over an array's elements. -/
theorem eqLoop_run {e : TypeId} {la : List TypeId} {d D : Nat} (rec : ∀ (xs ys : List Value) (w : World), fitAll P la xs → fitAll P la ys → (Op.equalIn D e (ofCells P e xs) (ofCells P e ys)).run P w = .ok (rowEq xs ys) w) (hl : leaves P d e = some la) : ∀ (k i : Nat) (px py xs ys : List Value) (w : World), px.length = i * la.length → py.length = i * la.length → fitAll P (reps la k) xs → fitAll P (reps la k) ys →
    ((forIn (List.range' i k) ((none, ()) : Option Bool × Unit) fun j _ => do
        let a ← part e (px ++ xs).toArray (j * la.length)
        let b ← part e (py ++ ys).toArray (j * la.length)
        let r ← Op.equalIn D e a b
        if (!r) = true then pure (ForInStep.done (some false, ())) else pure (ForInStep.yield (none, ())) : Sem (Option Bool × Unit))).run P w = .ok (if rowEq xs ys then none else some false, ()) w := by
  intro k
  induction k with
  | zero =>
    intro i px py xs ys w _ _ hx hy
    simp only [reps, fitAll] at hx hy
    subst hx; subst hy
    simp [rowEq]
  | succ k ih =>
    intro i px py xs ys w hpx hpy hx hy
    simp only [reps] at hx hy
    obtain ⟨xa, xb, rfl, hxa, hxb⟩ := fitAll_append hx
    obtain ⟨ya, yb, rfl, hya, hyb⟩ := fitAll_append hy
    have hc := leaves_cells _ _ _ hl
    have p1 := run_part (post := xb) (pre := px) hl hc hxa w
    have p2 := run_part (post := yb) (pre := py) hl hc hya w
    rw [hpx, List.append_assoc] at p1
    rw [hpy, List.append_assoc] at p2
    rw [rowEq_append (by rw [fitAll_length hxa, fitAll_length hya])]
    have hr := rec xa ya w hxa hya
    have ihh := ih (i + 1) (px ++ xa) (py ++ ya) xb yb w (by simp [hpx, fitAll_length hxa, Nat.add_mul]) (by simp [hpy, fitAll_length hya, Nat.add_mul]) hxb hyb
    rw [List.append_assoc, List.append_assoc] at ihh
    rw [List.range'_succ, List.forIn_cons]
    simp only [Sem.run_bind, p1, p2, Result.andThen_ok, hr]
    cases hb : rowEq xa ya
    · simp
    · simp only [Bool.not_true, Bool.false_eq_true, if_false, Bool.true_and, Sem.run_pure, Result.andThen_ok]
      exact ihh
theorem equalIn_run : ∀ (d : Nat) (T : TypeId) (ls : List TypeId), leaves P d T = some ls → ∀ (xs ys : List Value) (D : Nat) (w : World), d ≤ D → fitAll P ls xs → fitAll P ls ys → (Op.equalIn D T (ofCells P T xs) (ofCells P T ys)).run P w = .ok (rowEq xs ys) w := by
  intro d
  induction d with
  | zero => intro T ls h; simp [leaves] at h
  | succ d ih =>
    intro T ls h xs ys D w hD hx hy
    obtain ⟨D, rfl⟩ : ∃ D', D = D' + 1 := ⟨D - 1, by omega⟩
    have hD' : d ≤ D := by omega
    unfold leaves at h
    cases hu : P.underlying T with
    | none => rw [hu] at h; cases h
    | some dsc =>
      cases dsc <;> rw [hu] at h <;> try (cases h; done)
      case struct fs =>
        simp only at h
        split at h
        · cases h
        · rename_i hst
          split at h
          · rename_i n ls' hn hls
            split at h
            · rename_i hnl
              simp only [Option.some.injEq] at h
              subst h
              have hfs : P.fieldsOf T = fs := by simp [Program.fieldsOf, hu]
              have hr := run_equalIn_struct (P := P) w D T xs.toArray ys.toArray (by rw [hfs, hu]) (by simpa using hst)
              rw [hfs] at hr
              simp only [ofCells, hu]
              rw [hr]
              have := eqFields_run (P := P) d (fun T ls hl _ xs ys D w hD hx hy => ih T ls hl xs ys D w hD hx hy) (fun T ls hl => leaves_cells d T ls hl) fs.toList ls' 0 hls [] [] xs ys D w hD' rfl rfl hx hy
              simpa using this
            · cases h
          · cases h
      case array n e =>
        simp only at h
        split at h
        · rename_i la hla
          split at h
          · rename_i hc
            simp only [Option.some.injEq] at h
            subst h
            obtain ⟨q, hq, hqs⟩ := cellsT_spec hc.1
            have hl := eqLoop_run (P := P) (e := e) (la := la) (D := D) (fun xs ys w hx hy => ih e la hla xs ys D w hD' hx hy) hla n 0 [] [] xs ys w (by simp) (by simp) hx hy
            simp only [List.nil_append] at hl
            simp only [ofCells, hu, Op.equalIn, Sem.run_bind, run_underlying hu w, Result.andThen_ok, sizeOf, typeInfo]
            have hp : (program).run P w = .ok P w := rfl
            simp only [hp, Result.andThen_ok, hq, Sem.run_pure, hqs]
            rw [Std.Legacy.Range.forIn_eq_forIn_range']
            simp only [Std.Legacy.Range.size, Nat.sub_zero, Nat.add_sub_cancel, Nat.div_one]
            rw [hl]
            simp only [Result.andThen_ok]
            cases rowEq xs ys <;> rfl
          · cases h
        · cases h
      all_goals
        simp only at h
        split at h
        · simp only [Option.some.injEq] at h
          subst h
          match xs, ys, hx, hy with
          | [], _, hx, _ => exact hx.elim
          | [x], [], _, hy => exact hy.elim
          | [x], [y], hx, hy =>
            simp only [fitAll, and_true] at hx hy
            simp only [leafFit, hu] at hx hy
            cases x <;> simp at hx
            all_goals cases y <;> simp at hy
            all_goals simp_all [ofCells, Op.equalIn, run_underlying hu, rowEq, leafEq]
          | [x], _ :: _ :: _, _, hy => simp [fitAll] at hy
          | _ :: _ :: _, _, hx, _ => simp [fitAll] at hx
        · cases h
theorem v_eqa {l : Slots} {H : World → Prop} {x y : Operand} {T ty yt : TypeId} {c c' : Array Value} (D : Nat) {ls : List TypeId} (hx : evO l x = some (.agg c)) (hy : evO l y = some (.agg c')) (hT : leaves P D T = some ls) (ha : oneOf P T = false) (hg : P.eqGuardType P.depth T = false) (hD : D ≤ 10000) (h1 : fitAll P ls c.toList) (h2 : fitAll P ls c'.toList) : OV P (.binOp .eql T x y yt) ty l H (.bool (rowEq c.toList c'.toList)) :=
  v_bin hx hy fun w => by
    have he := equalIn_run (P := P) D T ls hT c.toList c'.toList Op.maxDepth w hD h1 h2
    have hof : ∀ cs : Array Value, ofCells P T cs.toList = .agg cs := fun cs => by
      unfold oneOf at ha
      unfold ofCells
      cases hu : P.underlying T with
      | none =>
        cases D with
        | zero => simp [leaves] at hT
        | succ D => simp [leaves, hu] at hT
      | some d => cases d <;> simp_all
    rw [hof, hof] at he
    have hp : (program).run P w = .ok P w := rfl
    have hgd : (eqGuard .eql T x y (.agg c) (.agg c')).run P w = .ok () w := by
      simp only [eqGuard]
      simp [hp, hg]
    rw [Sem.run_bind, hgd]
    simp only [Result.andThen_ok, binOp, Op.equal, Sem.run_bind, he]
    rfl
end Go.Eng
