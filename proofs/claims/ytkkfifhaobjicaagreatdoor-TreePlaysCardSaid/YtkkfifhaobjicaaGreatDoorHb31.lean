/- package pages: Commit, the pages that are kept behind it. -/
/- package pages: Commit. -/
/- package pages: Format. -/
/- package pages: the end of Open, a flush and a trim. -/
import Derived.Test.YtkkfifhaobjicaaGreatDoorHb30
namespace Go.Proofs.YtkkfifhaobjicaaGreatDoor
open Go.RowKit Go.Eng
set_option maxRecDepth 100000
def qi5 (s : Pg) (x : PR × List Nat) : Prop := (∀ i, x.1.lookup i = (s.C.lookup i).or (s.K.lookup i)) ∧ (∀ i, i ∈ x.2 ↔ i ∈ s.R ∨ (s.C.lookup i).isSome = true) ∧ x.1.Ok s.n ∧ (s.R.Nodup → x.2.Nodup)
theorem zcf {A : PR} {i : Nat} : (A.lookup i).isSome = true ↔ i ∈ A.map (·.1) := by
  constructor
  · intro h
    obtain ⟨b, hb⟩ := Option.isSome_iff_exists.1 h
    exact List.mem_map.2 ⟨(i, b), zcm hb, rfl⟩
  · intro h
    obtain ⟨b, hb⟩ := zkr h
    rw [hb]; rfl
structure KpS where
  L : zck
  c : Option (Nat × Value)
  k : List Nat
  K : PR
  R : List Nat
structure qn5 (s : Pg) (y : KpS) : Prop where
  L : y.L = (toP s.C).filter fun x => decide (x.1 ∉ y.k)
  nd : y.k.Nodup
  sub : ∀ z ∈ y.k, z ∈ s.C.map (·.1)
  look : ∀ i, y.K.lookup i = if i ∈ y.k then s.C.lookup i else s.K.lookup i
  mem : ∀ i, i ∈ y.R ↔ i ∈ s.R ∨ i ∈ y.k
  ok : y.K.Ok s.n
  rn : s.R.Nodup → y.R.Nodup
theorem qn5.step {s : Pg} {y : KpS} (h : qn5 s y) {p : Nat × Value} (hp : p ∈ y.L) {b : Bys} (hb : s.C.lookup p.1 = some b) (hbo : p.1 < s.n ∧ b.length = 512) : qn5 s ⟨qcr y.L p, some p, y.k ++ [p.1], zep y.K p.1 b, if p.1 ∈ y.R then y.R else y.R ++ [p.1]⟩ := by
  obtain ⟨hL, hnd, hsub, hlook, hmem, hok, hrn⟩ := h
  have hpk : p.1 ∉ y.k := by
    rw [hL] at hp
    simpa using (List.mem_filter.1 hp).2
  refine ⟨zq8 hL p, ?_, fun z hz => ?_, fun i => ?_, fun i => ?_, PR.Ok.ins hok hbo.1 hbo.2, ?_⟩
  · rw [List.nodup_append]
    refine ⟨hnd, by simp, fun a ha c hc => ?_⟩
    rw [List.mem_singleton] at hc
    subst hc
    exact fun e => hpk (e ▸ ha)
  · rcases List.mem_append.1 hz with hz | hz
    · exact hsub z hz
    · rw [List.mem_singleton] at hz; subst hz
      exact zcf.1 (by rw [hb]; rfl)
  · show (zep y.K p.1 b).lookup i = _
    rw [zc5, hlook]
    by_cases e : i = p.1
    · subst e; simp [hb]
    · simp [e]
  · show i ∈ (if p.1 ∈ y.R then y.R else y.R ++ [p.1]) ↔ _
    split
    · rename_i hpR
      rw [hmem]
      simp only [List.mem_append, List.mem_singleton]
      constructor
      · rintro (h | h)
        · exact .inl h
        · exact .inr (.inl h)
      · rintro (h | h | h)
        · exact .inl h
        · exact .inr h
        · subst h; exact (hmem _).1 hpR
    · simp only [List.mem_append, List.mem_singleton, hmem]
      constructor
      · rintro ((h | h) | h)
        · exact .inl h
        · exact .inr (.inl h)
        · exact .inr (.inr h)
      · rintro (h | h | h)
        · exact .inl (.inl h)
        · exact .inl (.inr h)
        · exact .inr h
  · intro hn
    show (if p.1 ∈ y.R then y.R else y.R ++ [p.1]).Nodup
    split
    · exact hrn hn
    · rename_i hpR
      rw [List.nodup_append]
      refine ⟨hrn hn, by simp, fun a ha c hc => ?_⟩
      rw [List.mem_singleton] at hc
      subst hc
      exact fun e => hpR (e ▸ ha)
theorem qn5.done {s : Pg} {y : KpS} (h : qn5 s y) (h0 : y.L = []) (hnd : (s.C.map (·.1)).Nodup) : qi5 s (y.K, y.R) := by
  have hk : ∀ i, i ∈ y.k ↔ (s.C.lookup i).isSome = true := fun i => by
    rw [zcf]
    refine ⟨h.sub i, fun hi => ?_⟩
    by_cases hc : i ∈ y.k
    · exact hc
    · obtain ⟨q, hq, rfl⟩ := List.mem_map.1 hi
      have : (q.1, pgV q.2) ∈ (toP s.C).filter fun x => decide (x.1 ∉ y.k) := List.mem_filter.2 ⟨List.mem_map.2 ⟨q, hq, rfl⟩, by simpa using hc⟩
      rw [← h.L, h0] at this
      exact nomatch this
  refine ⟨fun i => ?_, fun i => ?_, h.ok, ?_⟩
  · show y.K.lookup i = _
    rw [h.look]
    by_cases hc : i ∈ y.k
    · rw [if_pos hc]
      obtain ⟨b, hb⟩ := Option.isSome_iff_exists.1 ((hk i).1 hc)
      rw [hb]; rfl
    · rw [if_neg hc]
      have : s.C.lookup i = none := by
        cases hl : s.C.lookup i with
        | none => rfl
        | some b => exact absurd ((hk i).2 (by rw [hl]; rfl)) hc
      rw [this]; rfl
  · show i ∈ y.R ↔ _
    rw [h.mem, hk]
  · exact h.rn
def tC (s : Pg) : Bys := zd0 (zdw s.C)
def qjw (s : Pg) (D : Dsk) : Nat × Dsk × Pg :=
  if s.g.h.secs - s.g.used < zbb (tC s).length then ((zqd s D).1, (zqd s D).2.1, { qhc s D with dead := s.dead || decide ((zqd s D).1 = 4) }) else (0, D, s)
def qg0 (s : Pg) (D : Dsk) : Nat × Dsk × Pg :=
  ((qkk D s.g (tC s)).1, (qkk D s.g (tC s)).2, { s with g := { qql D s.g (tC s) with dead := decide ((qkk D s.g (tC s)).1 = 4) }, dead := s.dead || decide ((qkk D s.g (tC s)).1 = 4) })
def cmF (s : Pg) (D : Dsk) : Nat × Dsk × Pg := if (qjw s D).1 = 0 then qg0 (qjw s D).2.2 (qjw s D).2.1 else qjw s D
def cmR (s : Pg) (D : Dsk) (x : PR × List Nat) : Pg := if (cmF s D).1 = 0 then { (cmF s D).2.2 with K := x.1, R := x.2, C := [] } else (cmF s D).2.2
end Go.Proofs.YtkkfifhaobjicaaGreatDoor
namespace Go.Proofs.YtkkfifhaobjicaaGreatDoor
open Go.RowKit Go.Eng Go.Eng.Bm
set_option maxRecDepth 100000
set_option maxHeartbeats 40000000
def noU : Nat → Bool := fun _ => false
def bm0 (n : Nat) : Bys := bmB n (upd noU 0 true)
def zgw (log n : Nat) : List (Nat × Bys) := (List.range n).map fun i => (2 + log + i, if i = 0 then bm0 n else zdr)
def qcp (D : Dsk) (log n : Nat) (note : Bys) : Nat × Dsk :=
  if (zcs D (zgw log n)).1 = 0 then zbx (zcs D (zgw log n)).2 (za3 (zdb (zcs D (zgw log n)).2 2).2) (qb9 (zcs D (zgw log n)).2 log (beN 2 n ++ note)) else zcs D (zgw log n)
theorem zl3 {D : Dsk} (h : (zb8 D).1 = 0) : (zb8 D).2.dead = false ∧ (zb8 D).2.on.length = D.on.length := by
  unfold zb8 at h ⊢
  split at h
  · cases h
  · rename_i hd
    rw [if_neg hd]
    by_cases ha : (zgs D).1 = 0
    · rw [if_pos ha]
      obtain ⟨h1, h2, h3, -⟩ := zji ha
      refine ⟨?_, ?_⟩
      · show (zgs D).2.dead = false
        rw [h3]; simpa using hd
      · show (zif (zgs D).2.on (zgs D).2.wait _ _).length = _
        rw [zf9, h2]
    · rw [if_neg ha] at h
      exact absurd h ha
theorem zs9 : ∀ (l : List (Nat × Bys)) (D : Dsk), D.Ok → (zb6 D l).1 = 0 → (zb6 D l).2.on.length = D.on.length
  | [], _, _, _ => rfl
  | q :: l, D, h, h0 => by
    rw [zb6] at h0 ⊢
    by_cases h' : (zb1 D q.1 q.2).1 = 0
    · rw [if_pos h'] at h0 ⊢
      obtain ⟨h1, -, -, h4, -⟩ := zlm h q.1 q.2 h'
      rw [zs9 l _ h1 h0, h4]
    · rw [if_neg h'] at h0
      exact absurd h0 h'
theorem zqw (d : Dk) (ok : d.D.Ok) (hlive : d.D.dead = false) (hkl : d.D.keep.length ≤ 1000000) (hwl : d.D.wait.length ≤ 10000) (log n : Nat) (note : Bys) (hl1 : 96 ≤ log) (hl2 : log ≤ 512) (hn1 : 64 ≤ n) (hn2 : n ≤ 1024) (hno : note.length ≤ 40) (hroom : 2 + log + n ≤ d.D.on.length) (w : World) (hw : ∀ it ∈ [dkI d, ctI], za2 it w) (ha : [dkI d, ctI].Pairwise Eng.Item.Apart) :
    Ct Tryz.prog 50 #[.pointer (some ⟨d.b, 0, none⟩), .int .i64 log, .int .i64 n, .string ⟨note.toArray⟩] w (zap [dkI d, ctI]) (fun _ : Dk => .int .i64 ((qcp d.D log n note).1 : Nat)) (zjq d (qcp d.D log n note).2) (fun d' => [dkI d', ctI]) := by
  refine zbd [_, _, _, _] _ Tryz.func50 rfl rfl hw ha ?_
  have hbl := bal note
  have hmany := ok.many
  simp only [zaa, Nat.reduceAdd]
  refine goA ?_
  refine zae rfl (zag rfl (by kernel_rfl) rfl (fun w1 _ => qdt n (by omega) (by omega) w1)) fun _ => ?_
  refine goA ?_
  refine zan rfl rfl fun b9 hb9 => ?_
  refine za0 rfl (zai (cs' := zhm n noS) rfl rfl rfl (by rw [za9]; rfl) (zex _ _) (by rw [za9]; rfl)) fun _ => ?_
  refine goA ?_
  refine zae rfl (zag rfl (by kernel_rfl) rfl (fun w1 hw1 => zfq log n (by omega) (by omega) w1)) fun _ => ?_
  refine goA ?_
  refine zae rfl (zag rfl (by kernel_rfl) rfl (fun w1 hw1 => zha d w1 (za2.of (hw1.item (dkI d) (by simp)) (zad _)))) fun _ => ?_
  refine goA ?_
  refine zae rfl (zag rfl (by kernel_rfl) rfl (fun w1 _ => zmg n noU 0 true (by omega) w1)) fun _ => ?_
  rw [show qcm n noU 0 true = upd noU 0 true from zsj noU true (k := 0) (by omega)]
  refine ze5 rfl rfl (by kernel_rfl) rfl (fun w1 hw1 => znh n (upd noU 0 true) (by omega) w1) fun x hx => ?_
  rw [zop]
  refine goA ?_
  have hwsl : (zgw log n).length = n := by rw [zgw, List.length_map, List.length_range]
  have hwsk : ∀ k, k < n → (zgw log n).take (k + 1) = (zgw log n).take k ++ [(2 + log + k, if k = 0 then bm0 n else zdr)] := fun k hk => by
    rw [List.take_add_one, zgw, List.getElem?_map, List.getElem?_range hk]
    rfl
  have hokk : ∀ k, (zb6 d.D ((zgw log n).take k)).2.Ok := fun k => ziw _ _ ok
  have hkeepk : ∀ k, k ≤ n → (zb6 d.D ((zgw log n).take k)).1 = 0 → (zb6 d.D ((zgw log n).take k)).2.keep = d.D.keep ∧ (zb6 d.D ((zgw log n).take k)).2.wait.length = d.D.wait.length + k := fun k hk h0 => by
    have := zij ((zgw log n).take k) d.D ok h0
    rw [List.length_take, hwsl, Nat.min_eq_left hk] at this
    exact this
  have hbad : ∀ k, (zb6 d.D ((zgw log n).take k)).1 ≠ 0 → zb6 d.D (zgw log n) = zb6 d.D ((zgw log n).take k) := fun k hk => by
    have h1 := zn2 ((zgw log n).take k) ((zgw log n).drop k) d.D hk
    rw [List.take_append_drop] at h1
    exact h1
  have hall : zb6 d.D ((zgw log n).take n) = zb6 d.D (zgw log n) := by rw [List.take_of_length_le (by omega)]
  have hcl : ∀ k : Nat, (if k = 0 then bm0 n else zdr).length = 512 := fun k => by
    split
    · exact zo2 _ _
    · simp [zdr]
  have hz : (zaf zdr).toArray = Array.replicate 512 (.int .u8 0) := by
    unfold zaf zdr
    rw [List.map_replicate, List.toArray_replicate]
    rfl
  refine zct (α := Nat × Dk × Nat) (fun y => [(0, .pointer (some ⟨d.b, 0, none⟩)), (1, .int .i64 (log : Int)), (2, .int .i64 (n : Int)), (3, .string ⟨note.toArray⟩), (56, .int .i64 n), (57, .int .i64 y.1), (11, .slice (some ⟨y.2.2, 0, none⟩) 512 512)]) (fun y => y.1 ≤ n ∧ (zb6 d.D ((zgw log n).take y.1)).1 = 0 ∧ zjq d (zb6 d.D ((zgw log n).take y.1)).2 y.2.1) (fun y => [dkI y.2.1, pt y.2.2 (.cells (zaf (if y.1 = 0 then bm0 n else zdr)).toArray 5 (0, 0)), ctI]) (fun y => n - y.1) (0, d, x) ⟨rfl, rfl, rfl, rfl, rfl, rfl, rfl, trivial⟩ ⟨Nat.zero_le _, rfl, rfl, rfl, rfl⟩ (fun w hw => by exact hw.pick [2, 0, 3] rfl rfl) fun ⟨k, d1, xb⟩ ⟨hk, h0, hd1⟩ => ?_
  simp only at hk h0 hd1 ⊢
  by_cases hkn : k < n
  · have hst : zb6 d.D ((zgw log n).take (k + 1)) = zb1 (zb6 d.D ((zgw log n).take k)).2 (2 + log + k) (if k = 0 then bm0 n else zdr) := by
      rw [hwsk k hkn, zpd, if_pos h0]
    obtain ⟨hkp, hwt⟩ := hkeepk k (by omega) h0
    have hokd := hokk k
    have hbad2 := hbad (k + 1)
    generalize zb6 d.D ((zgw log n).take k) = r at *
    obtain ⟨hd1a, hd1b, hd1c⟩ := hd1
    rw [← hd1c] at hkp hwt hokd hst
    have hcur := hcl k
    generalize (if k = 0 then bm0 n else zdr) = cur at hst hcur ⊢
    refine goA ?_
    refine zae rfl (zag rfl (by kernel_rfl) rfl (fun w1 hw1 => zfq log k (by omega) (by omega) w1)) fun _ => ?_
    refine goA ?_
    rw [← hd1a]
    refine zae rfl (zba (pre := [dkI d1]) rfl (by kernel_rfl) rfl (by intro it hm; rcases hm with _ | ⟨_, hm⟩ <;> first | exact zad _ | exact (nomatch hm)) (fun w1 hw1 hh1 ha1 => zxh d1 hokd (by rw [hkp]; exact hkl) (by rw [hwt]; omega) (2 + log + k) (by omega) cur 512 hcur (some ⟨xb, 0, none⟩) 512 (by decide) w1 hh1 (fun w2 hw2 => .inr ⟨xb, 0, rfl, za7 (hw1.still (y := pt xb (.cells (zaf cur).toArray 5 (0, 0))) (.head _) (zac _ _ _) hw2)⟩))) fun ⟨d2, hd2⟩ => ?_
    dsimp only
    rw [← hst] at hd2 ⊢
    have hok2 : zjq d (zb6 d.D ((zgw log n).take (k + 1))).2 d2 := ⟨hd2.1.trans hd1a, hd2.2.1.trans hd1b, hd2.2.2⟩
    refine goA ?_
    by_cases he : (zb6 d.D ((zgw log n).take (k + 1))).1 = 0
    · have hne : (((zb6 d.D ((zgw log n).take (k + 1))).1 : Int) != 0) = false := by simp [he]
      rw [hne]
      refine goA ?_
      refine qjj rfl rfl rfl rfl rfl rfl (by decide) (by decide) fun c _ => ?_
      refine goA ?_
      exact zay (k + 1, d2, c) ⟨by rw [hd1a]; rfl, rfl, rfl, rfl, rfl, rfl, rfl, trivial⟩ ⟨hkn, he, hok2⟩ (fun w hw => by show Hp _ _ [dkI d2, pt c (.cells (zaf zdr).toArray 5 (0, 0)), ctI] w; rw [hz]; exact hw.pick [1, 0, 3] rfl rfl) (by show n - (k + 1) < n - k; omega)
    · have hne : (((zb6 d.D ((zgw log n).take (k + 1))).1 : Int) != 0) = true := by simp [he]
      have hfm : qcp d.D log n note = zb6 d.D ((zgw log n).take (k + 1)) := by
        have hb : zcs d.D (zgw log n) = zb6 d.D ((zgw log n).take (k + 1)) := by rw [zcs, hbad2 he, if_neg he]
        rw [qcp, hb, if_neg he]
      rw [hne, hfm]
      refine goA ?_
      exact zbw d2 rfl rfl rfl hok2 (.cons_cons _ (.cons _ (.refl _))) (zb4 d2)
  · obtain rfl : k = n := by omega
    rw [hall] at h0 hd1
    have hkk := hkeepk k (Nat.le_refl _) (by rw [hall]; exact h0)
    rw [hall] at hkk
    have hokd := ziw (zgw log k) d.D ok
    have hlen1 := zs9 (zgw log k) d.D ok h0
    have hbt : zcs d.D (zgw log k) = zb8 (zb6 d.D (zgw log k)).2 := by rw [zcs, if_pos h0]
    unfold qcp
    rw [hbt]
    generalize zb6 d.D (zgw log k) = r at *
    obtain ⟨hd1a, hd1b, hd1c⟩ := hd1
    rw [← hd1c] at hkk hokd hlen1 ⊢
    refine goA ?_
    rw [← hd1a]
    refine zae rfl (zba (pre := [dkI d1]) rfl (by kernel_rfl) rfl (by intro it hm; rcases hm with _ | ⟨_, hm⟩ <;> first | exact zad _ | exact (nomatch hm)) (fun w1 hw1 hh1 ha1 => zj6 d1 hokd (by rw [hkk.1]; exact hkl) (by rw [hkk.2]; omega) w1 hh1)) fun ⟨d2, hd2⟩ => ?_
    dsimp only
    have hok2 : zjq d (zb8 d1.D).2 d2 := ⟨hd2.1.trans hd1a, hd2.2.1.trans hd1b, hd2.2.2⟩
    have hfo := zix hokd
    have hfk := zlx (D := d1.D)
    have hfl := zl3 (D := d1.D)
    generalize zb8 d1.D = r2 at *
    refine goA ?_
    by_cases he : r2.1 = 0
    · have hne : ((r2.1 : Int) != 0) = false := by simp [he]
      obtain ⟨hk1, hk2⟩ := hfk he
      obtain ⟨hl1', hl2'⟩ := hfl he
      rw [hne]
      simp only [if_pos he]
      rw [← hok2.2.2] at hfo hk1 hk2 hl1' hl2' ⊢
      refine goA ?_
      refine ze5 rfl rfl (by kernel_rfl) rfl (fun w1 hw1 => zln w1) fun x hx => ?_
      refine goA ?_
      refine zae rfl (zba (pre := pks x none []) rfl (by kernel_rfl) rfl (by simp [zac, zab]) (fun w1 hw1 hh1 ha1 => zd7 x none [] 2 k (.inr (.inl rfl)) (by omega) (by decide) w1 hh1 ha1)) fun ⟨o1, _⟩ => ?_
      rw [List.nil_append]
      refine goA ?_
      refine zae rfl (zba (pre := pks x o1 (beN 2 k)) rfl (by kernel_rfl) rfl (by simp [zac, zab]) (fun w1 hw1 hh1 ha1 => zgb x o1 (beN 2 k) ⟨note.toArray⟩ (by rw [zao, hbl]; omega) w1 hh1 ha1)) fun ⟨o2, _⟩ => ?_
      refine ze1 (m' := pks x o2 (beN 2 k ++ note) ++ [dkI d2, pt xb (.cells (zaf (if k = 0 then bm0 k else zdr)).toArray 5 (0, 0)), ctI]) (fun w' hw' => hw') ?_
      have htl : (beN 2 k ++ note).length ≤ 42 := by rw [List.length_append, zao]; omega
      generalize beN 2 k ++ note = tx at htl ⊢
      refine zae rfl (zba (pre := pks x o2 tx) rfl (by kernel_rfl) rfl (by simp [zac, zab]) (fun w1 hw1 hh1 ha1 => zfe x o2 tx (by omega) w1 hh1 ha1)) fun ⟨o3, _⟩ => ?_
      dsimp only
      refine zea (fun w hw => (zav (hw.item (own 5 1 o3 tx.length (zaf tx)) (.head _)).1)) fun ⟨hsl2, _⟩ => ?_
      rw [hsl2]
      refine goA ?_
      refine l_w rfl (zrz (bs := tx) rfl rfl rfl rfl (fun w' hw' => zbn (hw'.item (own 5 1 o3 tx.length (zaf tx)) (.head _)).1)) ?_
      refine za1 [3, 5, 0, 1, 2, 4] rfl rfl ?_
      rw [← hd2.1]
      refine zae rfl (zba (pre := [dkI d2, ctI]) rfl (by kernel_rfl) rfl (zb4 d2) (fun w1 hw1 hh1 ha1 => zuo d2 hfo hl1' (by rw [hk1, hkk.1]; exact hkl) (by rw [hk2]; decide) log hl1 hl2 (by rw [hl2', hlen1]; omega) tx (by omega) w1 hh1 ha1)) fun ⟨d3, hd3⟩ => ?_
      refine goA ?_
      exact zbw d3 rfl rfl rfl ⟨hd3.1.trans hok2.1, hd3.2.1.trans hok2.2.1, hd3.2.2⟩ (.cons_cons _ (.cons_cons _ (List.nil_sublist _))) (zb4 d3)
    · have hne : ((r2.1 : Int) != 0) = true := by simp [he]
      rw [hne]
      simp only [if_neg he]
      refine goA ?_
      exact zbw d2 rfl rfl rfl hok2 (.cons_cons _ (.cons _ (.refl _))) (zb4 d2)
end Go.Proofs.YtkkfifhaobjicaaGreatDoor
namespace Go.Proofs.YtkkfifhaobjicaaGreatDoor
open Go.RowKit Go.Eng
set_option maxRecDepth 100000
abbrev ftT : List ((Dk × Lg → Nat) × (Dk × Lg → Dk × Lg → Prop)) :=
  [(fun x => (zb8 x.1.D).1, fun x x' => zjq x.1 (zb8 x.1.D).2 x'.1 ∧ x'.2 = x.2),
   (fun x => (zbx x.1.D (za3 x.2.at_) (zbv x.2)).1, fun x x' => zjq x.1 (zbx x.1.D (za3 x.2.at_) (zbv x.2)).2 x'.1 ∧ x'.2 = { zkg x.2 x.1.D with dead := decide ((zbx x.1.D (za3 x.2.at_) (zbv x.2)).1 = 4) })]
def ftV (s : Pg) (d : Dk) : List (FuncId × List Value × List Value) := [(78, [.pointer (some ⟨d.b, 0, none⟩)], []), (95, [.pointer (some ⟨s.bl, 0, none⟩)], [])]
def ftF (D : Dsk) (g : Lg) : Nat × Dsk × Lg :=
  if (zb8 D).1 = 0 then ((zbx (zb8 D).2 (za3 g.at_) (zbv g)).1, (zbx (zb8 D).2 (za3 g.at_) (zbv g)).2, { zkg g (zb8 D).2 with dead := decide ((zbx (zb8 D).2 (za3 g.at_) (zbv g)).1 = 4) })
  else ((zb8 D).1, (zb8 D).2, g)
theorem qnm {d : Dk} {g : Lg} {x : Nat × (Dk × Lg)} (h : qo4 ftT (d, g) x) : x.1 = (ftF d.D g).1 ∧ zjq d (ftF d.D g).2.1 x.2.1 ∧ x.2.2 = (ftF d.D g).2.2 := by
  obtain ⟨⟨d1, g1⟩, ⟨h1, h2⟩, h⟩ := h
  simp only at h1 h2 h
  subst h2
  unfold ftF
  by_cases e1 : (zb8 d.D).1 = 0
  · rw [if_pos e1] at h ⊢
    obtain ⟨⟨d2, g2⟩, ⟨h3, h4⟩, h⟩ := h
    simp only at h3 h4 h
    rw [h1.2.2] at h3 h4 h
    have hx : x = ((zbx (zb8 d.D).2 (za3 g1.at_) (zbv g1)).1, (d2, g2)) := by
      by_cases e3 : (zbx (zb8 d.D).2 (za3 g1.at_) (zbv g1)).1 = 0
      · rw [if_pos e3] at h
        rw [e3]; exact h
      · rw [if_neg e3] at h; exact h
    subst hx
    exact ⟨rfl, h1.trans h3, h4⟩
  · rw [if_neg e1] at h ⊢
    subst h
    exact ⟨rfl, h1, rfl⟩
def ftI (d : Dk) (g : Lg) (k : Nat) (x : Dk × Lg) : Prop := match k with
  | 0 => x = (d, g)
  | 1 => zjq d (zb8 d.D).2 x.1 ∧ (zb8 d.D).1 = 0 ∧ x.2 = g
  | _ => True
def ftB (s : Pg) (x : Dk × Lg) : List Eng.Item := [pgI { s with g := x.2 } x.1, dkI x.1, ctI]
theorem zl0 (s : Pg) (x : Dk × Lg) : ∀ it ∈ ftB s x, it.Stable none' := zr4 _ _
theorem qkl (s : Pg) (d : Dk) (ok : d.D.Ok) (hkl : d.D.keep.length ≤ 1000000) (hwl : d.D.wait.length ≤ 1000000) (hgo : s.g.h.Ok) (hnx : s.g.next < 18446744073709551616) (hat : s.g.at_ = 0 ∨ s.g.at_ = 1) (hgd : s.g.dead = false) :
    ∀ (k : Nat) (f : FuncId × List Value × List Value) (t : (Dk × Lg → Nat) × (Dk × Lg → Dk × Lg → Prop)) (x : Dk × Lg), (ftV s d)[k]? = some f → ftT[k]? = some t → ftI d s.g k x →
      zb9 Tryz.prog f.1 = true ∧ ∀ w, (∀ it ∈ ftB s x, za2 it w) → (ftB s x).Pairwise Eng.Item.Apart → Ct Tryz.prog f.1 (f.2.1 ++ f.2.2).toArray w (zap (ftB s x)) (fun _ : Dk × Lg => .int .i64 (t.1 x : Nat)) (t.2 x) (fun x' => ftB s x') := by
  intro k f t x hf ht hI
  match k, hf, ht, hI with
  | 0, hf, ht, hI =>
    cases hf; cases ht
    have hI : x = (d, s.g) := hI
    subst hI
    refine ⟨by kernel_rfl, fun w hw ha => ?_⟩
    refine Ct.conv (fun d' => (d', s.g)) (pre2 := [dkI d]) (rest := [pgI s d, ctI]) ?_ (by intro it hm; rcases hm with _ | ⟨_, hm⟩ <;> first | exact zad _ | exact (nomatch hm)) (fun hh ha2 => zj6 d ok hkl (by omega) w hh) (fun _ _ => rfl) (fun d' hd' => ⟨hd', rfl⟩) (zl0 s) (fun d' w' hd' h => ?_)
    · exact (Hp.begin hw ha _ (fun _ h => h)).pick [1, 0, 2] rfl rfl
    · have e : pgI s d = pgI s d' := (qku hd'.1).symm
      rw [e] at h
      exact h.pick [1, 0, 2] rfl rfl
  | 1, hf, ht, hI =>
    cases hf; cases ht
    obtain ⟨d1, g1⟩ := x
    obtain ⟨hd1, e1, rfl⟩ : zjq d (zb8 d.D).2 d1 ∧ (zb8 d.D).1 = 0 ∧ g1 = s.g := hI
    have hk2 := zlx e1
    have hDD := hd1.2.2
    refine ⟨by kernel_rfl, fun w hw ha => ?_⟩
    refine Ct.conv (fun d' => (d', { zkg s.g d1.D with dead := decide ((zbx d1.D (za3 s.g.at_) (zbv s.g)).1 = 4) })) (pre2 := [lgI s.bl d1 s.g, dkI d1, ctI]) (rest := [pgC s d1, zd6 .i64 s.kb (toP s.K), zd6 .i64 s.db (toB s.R), zd6 .i64 s.cb (toP s.C)]) ?_ (by intro it hm; rcases hm with _ | ⟨_, hm⟩ <;> first | exact zac _ _ _ | exact zb4 d1 it hm) (fun hh ha2 => qaw s.bl d1 s.g (by rw [hDD]; exact zix ok) (by rw [hDD, hk2.1]; exact hkl) (by rw [hDD, hk2.2]; decide) hgo hnx hat hgd w hh ha2) (fun _ _ => rfl) (fun d' hd' => ⟨hd', rfl⟩) (zl0 s) (fun d' w' hd' h => ?_)
    · exact (zim (s := s) (m := [dkI d1, ctI]) (Hp.begin hw ha _ (fun _ h => h))).pick [1, 5, 6, 0, 2, 3, 4] rfl rfl
    · have e : pgC s d1 = pgC s d' := by unfold pgC pgA; rw [hd'.1]
      rw [e] at h
      exact zf5 (s := { s with g := { zkg s.g d1.D with dead := decide ((zbx d1.D (za3 s.g.at_) (zbv s.g)).1 = 4) } }) (m := [dkI d', ctI]) (h.pick [3, 0, 4, 5, 6, 1, 2] rfl rfl)
  | k + 2, hf, _, _ => cases hf
theorem qhb (s : Pg) (d : Dk) (bq : Nat) (ok : d.D.Ok) (hkl : d.D.keep.length ≤ 1000000) (hwl : d.D.wait.length ≤ 1000000) (hgo : s.g.h.Ok) (hnx : s.g.next < 18446744073709551616) (hat : s.g.at_ = 0 ∨ s.g.at_ = 1) (hgd : s.g.dead = false) (w : World) (hw : ∀ it ∈ [pgI s d, dkI d, ctI, fvI bq 2 (ftV s d)], za2 it w) (ha : [pgI s d, dkI d, ctI, fvI bq 2 (ftV s d)].Pairwise Eng.Item.Apart) :
    Ct Tryz.prog 94 #[.slice (some ⟨bq, 0, none⟩) 2 2] w (zap [pgI s d, dkI d, ctI, fvI bq 2 (ftV s d)]) (fun _ : Dk => .int .i64 ((ftF d.D s.g).1 : Nat)) (zjq d (ftF d.D s.g).2.1) (fun d' => [pgI { s with g := (ftF d.D s.g).2.2 } d', dkI d', ctI]) := by
  have hI : ∀ k (t : (Dk × Lg → Nat) × (Dk × Lg → Dk × Lg → Prop)) x x', ftT[k]? = some t → ftI d s.g k x → t.2 x x' → t.1 x = 0 → ftI d s.g (k + 1) x' := by
    intro k t x x' ht hI h2 h1
    match k, ht, hI with
    | 0, ht, hI =>
      cases ht
      have hI : x = (d, s.g) := hI
      subst hI
      exact ⟨h2.1, h1, h2.2⟩
    | 1, ht, hI => trivial
    | k + 2, ht, _ => cases ht
  have h := qgv (ftB s) (ftV s d) ftT rfl (ftI d s.g) (d, s.g) rfl (zl0 s) (by show (2 : Nat) ≤ 1000; decide) (qkl s d ok hkl hwl hgo hnx hat hgd) hI bq 2 w hw ha
  unfold Ct at h ⊢
  refine h.mono ?_
  rintro e w' ⟨⟨e1, d', g'⟩, he, hx, hi⟩
  obtain ⟨h1, h2, h3⟩ := qnm hx
  simp only at h1 h2 h3 he
  subst h1 h3
  exact ⟨d', he, h2, hi⟩
end Go.Proofs.YtkkfifhaobjicaaGreatDoor
