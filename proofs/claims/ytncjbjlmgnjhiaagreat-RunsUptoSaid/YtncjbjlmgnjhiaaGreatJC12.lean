/- Joined texts: RunF, RunT, JourP, RunJ, TopA, FrP, FrA, JourQ, FrB, FrC, RecA, RecB. -/
import Derived.Test.YtncjbjlmgnjhiaaGreatJC4
import Derived.Test.YtncjbjlmgnjhiaaGreatJC6
import Derived.Test.YtncjbjlmgnjhiaaGreatJC7
import Derived.Test.YtncjbjlmgnjhiaaGreatJC9
import Derived.Test.YtncjbjlmgnjhiaaGreatJC10
import Derived.Test.YtncjbjlmgnjhiaaGreatJC11
namespace Go.Proofs.YtncjbjlmgnjhiaaGreat.VM
open Go
set_option linter.unusedVariables false
set_option linter.unusedSimpArgs false
attribute [local irreducible] wq wqL wqD wqE wqO Th Bk EndR
set_option maxHeartbeats 8000000
def Folds (s : St) : Prop := ∀ (q : Nat) m, s.ms[q]? = some m → Fz (Ce s.c s.es) (q : Int) = some m.1
theorem LS {c : Cfg} {es : List Ev} {e : Ev} (hm : Ap (es ++ [e]) c.m = true) {m : Int} (h0 : 0 ≤ m) (h : m < c.m) :
  Fz (Ce c (es ++ [e])) m = if m = e.member then turnK c e (Fz (Ce c es) e.member) (if e.kind = 1 then Fz (Ce c es) e.BV else none) else Fz (Ce c es) m := by
 have := Py hm (k := es.length) (e := e) (by simp) h0 h
 rw [List.take_of_length_le (by simp), List.take_left] at this
 exact this
theorem Wj {c : Cfg} (hc : Al c = true) : Folds (FX c) := fun q m hq => by
 obtain ⟨hm2, _⟩ := AX hc
 have hl := (Eh (OO hc)).len
 have hlt := (List.getElem?_eq_some_iff.1 hq).1
 have hq2 : (q : Int) < c.m := by
  have : ((FX c).ms.length : Int) = c.m := hl
  omega
 obtain ⟨o, ho, hof⟩ := ZD hc hq2
 rw [ho] at hq
 cases hq
 have hok : Cx c (q : Int) = true := by
  unfold Cx
  rw [hc, Ip hm2, within_iff.2 ⟨by omega, by omega⟩]; rfl
 show Fz (Kg c) (q : Int) = _
 unfold Fz
 rw [Kh (by omega) hq2, hof]
 show some (Bq c (q : Int)) = _
 unfold Bq
 rw [if_pos hok]
theorem Pm {s : St} (h : Folds s) {p : Nat} {o : Chk × Int} (hp : EN s p o) (hm : Ap (es1 s p) s.c.m = true) : ∀ (q : Nat) m, (ms1 s p)[q]? = some m → Fz (Ce s.c (es1 s p)) (q : Int) = some m.1 := fun q m hq => by
 have hl := hp.ok.len
 have hpl := (List.getElem?_eq_some_iff.1 hp.at_).1
 have hql : q < s.ms.length := by
  have := (List.getElem?_eq_some_iff.1 hq).1
  simpa [ms1] using this
 unfold es1 at hm ⊢
 rw [LS hm (by omega) (by omega)]
 rw [Hg hpl] at hq
 by_cases hqp : q = p
 ·subst hqp
  rw [if_pos rfl] at hq
  cases hq
  rw [if_pos rfl]
  simp only
  rw [h q o hp.at_]
  unfold turnK
  simp only [if_true]
  have hom := List.mem_of_getElem? hp.at_
  have ht := hp.ok.tot o hom
  have := hp.t
  rw [IM hp.ok.c (by omega) (hp.ok.fits o hom) (by omega)]
  simp only [if_true]
  rw [Dx hp.at_]
 ·rw [if_neg hqp] at hq
  rw [if_neg (by simp only; omega)]
  exact h q m hq
theorem Yc {s : St} (h : Folds s) {p : Nat} {o : Chk × Int} (hp : EN s p o) : Folds (doS s p) := by
 have hl := hp.ok.len
 have hpl := (List.getElem?_eq_some_iff.1 hp.at_).1
 have may2 := VY hp.ok hp.at_ hp.room
 by_cases htk : DE s p = true
 ·obtain ⟨d, h1, h2, h3, h4⟩ := JA hpl htk
  have e2 : es2 s p = (es1 s p ++ [⟨1, (p : Int), (Cg s p).1, (BD (es1 s p) (Cg s p).1 : Nat), 0, 0⟩]) ++ [⟨2, p, 0, 0, (Ek s p).1, (Ek s p).2⟩] := by
   unfold es2
   rw [if_pos htk]; simp
  rw [e2] at may2
  have mid := JF may2 ((es1 s p).length + 1)
  rw [List.take_append_of_le_length (by simp), List.take_of_length_le (by simp)] at mid
  have lo := JF may2 (es1 s p).length
  rw [List.take_append_of_le_length (by simp), List.take_left] at lo
  have f1 := Pm h hp lo
  have hdm : (ms1 s p)[d]? = some (DB (ms1 s p) d) := by
   rw [Hg hpl, if_neg h3]; exact h4
  have fd := f1 d _ hdm
  have fp := f1 p (AP s p, (DB s.ms p).2) (by rw [Hg hpl, if_pos rfl])
  intro q m hq
  have hq' : (s.ms.set p (Ci s p, GC s p))[q]? = some m := hq
  have hql : q < s.ms.length := by
   have := (List.getElem?_eq_some_iff.1 hq').1
   simpa using this
  show Fz (Ce s.c (es2 s p)) (q : Int) = some m.1
  rw [e2, LS may2 (by omega) (by omega)]
  by_cases hqp : q = p
  ·subst hqp
   rw [List.getElem?_set_self hpl] at hq'
   cases hq'
   rw [if_pos rfl]
   simp only
   rw [LS mid (by omega) (by omega), if_pos rfl]
   simp only [if_true, h1]
   rw [fp, fd]
   have hd : Iu s q = (DB (ms1 s q) d).1 := by unfold Iu; rw [h1]; rfl
   unfold Ci
   rw [if_pos htk, hd]
   rfl
  ·rw [List.getElem?_set_ne (Ne.symm hqp)] at hq'
   rw [if_neg (by simp only; omega), LS mid (by omega) (by omega), if_neg (by simp only; omega)]
   exact f1 q m (by rw [Hg hpl, if_neg hqp]; exact hq')
 ·have e2 : es2 s p = es1 s p := by unfold es2; rw [if_neg htk]
  rw [e2] at may2
  have f1 := Pm h hp may2
  intro q m hq
  have hq' : (s.ms.set p (Ci s p, GC s p))[q]? = some m := hq
  show Fz (Ce s.c (es2 s p)) (q : Int) = some m.1
  rw [e2]
  by_cases hqp : q = p
  ·subst hqp
   rw [List.getElem?_set_self hpl] at hq'
   cases hq'
   have := f1 q (AP s q, (DB s.ms q).2) (by rw [Hg hpl, if_pos rfl])
   unfold Ci
   rw [if_neg htk]
   exact this
  ·rw [List.getElem?_set_ne (Ne.symm hqp)] at hq'
   exact f1 q m (by rw [Hg hpl, if_neg hqp]; exact hq')
theorem UT {c : Cfg} {s t : St} (hs : DO c s) (h : Folds s) {x : Int} (hx : DA s x = some t) : Folds t := by
 rcases En hs x with ⟨p, o, rfl, pk, _, e⟩ | ⟨p, o, rfl, _, _, _, e⟩ | ⟨_, _, e⟩
 ·rw [e] at hx; cases hx
  exact Yc h pk
 ·rw [e] at hx; cases hx
  exact h
 ·rw [e] at hx; cases hx
theorem Pn {c : Cfg} : ∀ (ps : List Int) (s t : St), DO c s → Folds s → ps.foldlM DA s = some t → Folds t
 | [], s, t, hs, h, e => by cases e; exact h
 | x :: ps, s, t, hs, h, e => by
  rw [List.foldlM_cons] at e
  cases hx : DA s x with
  | none => rw [hx] at e; cases e
  | some u =>
   rw [hx] at e
   exact Pn ps u t (Gs hs hx).1 (UT hs h hx) e
structure Twin (s t : St) : Prop where
 c : t.c = s.c
 ms : t.ms.map (·.1) = s.ms.map (·.1)
 es : t.es = s.es
theorem Twin.refl (s : St) : Twin s s := ⟨rfl, rfl, rfl⟩
theorem IB (ms : List (Chk × Int)) (p : Nat) : (DB ms p).1 = (ms.map (·.1)).getD p FP := by
 unfold DB
 rw [List.getD_eq_getElem?_getD, List.getD_eq_getElem?_getD, List.getElem?_map]
 cases ms[p]? <;> rfl
theorem Twin.QO {s t : St} (h : Twin s t) (p : Nat) : AP t p = AP s p := by
 unfold AP
 rw [IB, IB, h.ms, h.c]
theorem Twin.ms1 {s t : St} (h : Twin s t) (p : Nat) : (ms1 t p).map (·.1) = (ms1 s p).map (·.1) := by
 unfold VM.ms1
 rw [List.map_set, List.map_set, h.ms, h.QO]
theorem Twin.BV {s t : St} (h : Twin s t) (p : Nat) : Cg t p = Cg s p := by
 have e : ∀ u : St, (VM.ms1 u p).map (fun m => (By u.c m.1).1) = ((VM.ms1 u p).map (·.1)).map fun k => (By u.c k).1 := fun u => by rw [List.map_map]; rfl
 unfold Cg
 rw [e t, e s, h.ms1, h.c, h.QO]
theorem Twin.DE {s t : St} (h : Twin s t) (p : Nat) : DE t p = DE s p := by
 unfold VM.DE
 rw [h.BV, h.QO, h.c]
theorem Twin.chk {s t : St} (h : Twin s t) (p : Nat) : Ci t p = Ci s p := by
 have hd : Iu t p = Iu s p := by
  unfold Iu
  rw [IB, IB, h.ms1, h.BV]
 have hy : Ek t p = Ek s p := by
  unfold Ek
  rw [hd, h.QO, h.c]
 unfold Ci
 rw [h.DE, hd, hy, h.QO]
theorem Twin.evs {s t : St} (h : Twin s t) (p : Nat) : es2 t p = es2 s p := by
 have hd : Iu t p = Iu s p := by
  unfold Iu
  rw [IB, IB, h.ms1, h.BV]
 have hy : Ek t p = Ek s p := by
  unfold Ek
  rw [hd, h.QO, h.c]
 have he : es1 t p = es1 s p := by unfold es1; rw [h.es]
 unfold es2
 rw [h.DE, he, hy, h.BV]
theorem Twin.do_ {s t : St} (h : Twin s t) (p : Nat) : Twin (doS s p) (doS t p) := by
 refine ⟨h.c, ?_, h.evs p⟩
 show (t.ms.set p _).map _ = (s.ms.set p _).map _
 rw [List.map_set, List.map_set, h.ms, h.chk]
theorem Twin.iI {s t : St} (h : Twin s t) : Twin s (PA t) := ⟨h.c, h.ms, h.es⟩
theorem Twin.pick {c : Cfg} {s t : St} (h : Twin s t) (hs : DO c s) (ht : DO c t) (x : Int) : (∃ p : Nat, doR s x = (doS s p, 0) ∧ doR t x = (doS t p, 0) ∧ DO c (doS s p) ∧ DO c (doS t p) ∧ Twin (doS s p) (doS t p)) ∨ ∃ e, e ≠ 0 ∧ doR s x = (DN, e) ∧ doR t x = (DN, e) := by
 have key : ∀ (p : Nat) (o : Chk × Int), s.ms[p]? = some o → ∃ o', t.ms[p]? = some o' ∧ o'.1 = o.1 := fun p o ho => by
  have hm := congrArg (fun l : List Chk => l[p]?) h.ms
  simp only [List.getElem?_map, ho] at hm
  cases ht' : t.ms[p]? with
  | none => rw [ht'] at hm; cases hm
  | some o' =>
   rw [ht'] at hm
   exact ⟨o', rfl, by simpa using hm⟩
 rcases En hs x with ⟨p, o, rfl, pk, e, _⟩ | ⟨p, o, rfl, ho, hto, e, _⟩ | ⟨ho, e, _⟩
 ·obtain ⟨o', ho', heq⟩ := key p o pk.at_
  have pk' : EN t p o' := ⟨ht.ok, ho', by rw [heq, h.c]; exact pk.t, by rw [h.es]; exact pk.room⟩
  exact .inl ⟨p, e, Nr pk', JT hs pk, JT ht pk', h.do_ p⟩
 ·obtain ⟨o', ho', heq⟩ := key p o ho
  exact .inr ⟨2301, by decide, e, NN ht.ok ho' (by rw [heq, h.c]; exact hto) (Im ht)⟩
 ·have hl := ht.ok.len
  rw [ht.c] at hl
  exact .inr ⟨2300, by decide, e, TE (by omega)⟩
def IY (x : Nat) : Nat := if x % 2 = 1 then (x / 2) ^^^ 3988292384 else x / 2
def crcBits : Nat → Nat → Nat
 | 0, x => x
 | k + 1, x => crcBits k (IY x)
def Kx (x : Nat) (b : Int) : Nat := crcBits 8 (x ^^^ b.toNat)
def Rg (bs : List Int) : Nat := 4294967295 ^^^ bs.foldl Kx 4294967295
def KR (s : List Int) : List Int := Bm s.length 2 ++ s
def Cc (s : List Int) : List Int := KR s ++ Bm (Rg (KR s)) 4
theorem KS (s : List Int) : (Cc s).length = 6 + s.length := by
 unfold Cc KR
 simp only [List.length_append, CD]; omega
theorem XD {k : Nat} (h : k < 65536) : numN (Bm k 2) = k := by
 have e : Bm (k : Int) 2 = [Ds k 0, Ds k 1] := rfl
 rw [e]
 simp only [numN, Yu, eJ]
 omega
def Qr (t : List Int) (at_ : Nat) : Option (List Int × Nat) :=
 if at_ + 6 ≤ t.length then
  (if (numN ((t.drop at_).take 2)).toNat ≤ 1024 ∧ at_ + 6 + (numN ((t.drop at_).take 2)).toNat ≤ t.length then
   (if Cc ((t.drop (at_ + 2)).take (numN ((t.drop at_).take 2)).toNat) = (t.drop at_).take (6 + (numN ((t.drop at_).take 2)).toNat) then some ((t.drop (at_ + 2)).take (numN ((t.drop at_).take 2)).toNat, at_ + 6 + (numN ((t.drop at_).take 2)).toNat) else none)
  else none)
 else none
theorem told {pre s x : List Int} {j : Nat} (hs : s.length < 65536) (hj : 2 ≤ j) : numN (((pre ++ ((Cc s).take j ++ x)).drop pre.length).take 2) = s.length := by
 rw [List.drop_left]
 have : ((Cc s).take j ++ x).take 2 = Bm s.length 2 := by
  unfold Cc KR
  have hl : (Bm (s.length : Int) 2).length = 2 := CD ..
  rw [List.append_assoc, List.take_append_of_le_length (by simp only [List.length_take, List.length_append, CD]; omega), List.take_take, Nat.min_eq_left hj, List.take_append_of_le_length (by omega), List.take_of_length_le (by omega)]
 rw [this, XD hs]
def loadN (t : List Int) : Nat → Nat → List (List Int) × Nat
 | 0, at_ => ([], at_)
 | f + 1, at_ => match Qr t at_ with
  | none => ([], at_)
  | some (s, next) => (s :: (loadN t f next).1, (loadN t f next).2)
def CJ (ss : List (List Int)) : List Int := ss.flatMap Cc
def Iv (c : Cfg) (s : List Int) : Bool := decide (s.length ≠ 1) || decide (s.headD 0 ≥ c.m)
def Uh (c : Cfg) (ss : List (List Int)) : List Int := ((ss.take 256).takeWhile fun s => !Iv c s).map fun s => s.headD 0
def Pr (t : List Int) : List (List Int) := (loadN (t.take 65536) 65537 0).1
def EX (c : Cfg) (t : List Int) : St × Int := if Al c = true then FH c (Uh c (Pr t)) else (DN, 2500)
def Gn (ps : List Int) : List (List Int) := ps.map fun x => [x]
def Fw (ps : List Int) : List Int × Int := if (ps.all fun x => within x 0 7) = false then ([], 2501) else if 256 < ps.length then ([], 2500) else (CJ (Gn ps), 0)
theorem QC (ps : List Int) : (Gn ps).length = ps.length := by simp [Gn]
theorem XJ (ps : List Int) : ∀ s ∈ Gn ps, s.length = 1 := fun s hs => by
 obtain ⟨x, _, rfl⟩ := List.mem_map.1 hs
 rfl
theorem OC : ∀ ss : List (List Int), (∀ s ∈ ss, s.length = 1) → (CJ ss).length = 7 * ss.length
 | [], _ => rfl
 | s :: ss, h => by
  have ih := OC ss fun x hx => h x (List.mem_cons_of_mem _ hx)
  have h1 := h s (List.mem_cons_self ..)
  have : CJ (s :: ss) = Cc s ++ CJ ss := by simp [CJ]
  rw [this, List.length_append, KS, ih, h1, List.length_cons]; omega
theorem Me {α : Type} {p : α → Bool} : ∀ (l : List α), ∀ x ∈ l.takeWhile p, p x = true ∧ x ∈ l
 | [], x, h => by simp at h
 | a :: l, x, h => by
  rw [List.takeWhile_cons] at h
  cases ha : p a with
  | false => rw [ha] at h; simp at h
  | true =>
   rw [ha] at h
   simp only [if_true, List.mem_cons] at h
   rcases h with rfl | h
   ·exact ⟨ha, List.mem_cons_self ..⟩
   ·exact ⟨(Me l x h).1, List.mem_cons_of_mem _ (Me l x h).2⟩
theorem RW {c : Cfg} (hc : Al c = true) {ps : List Int} (hl : ps.length ≤ 256) (h : ∀ x ∈ ps, 0 ≤ x ∧ x < c.m) : ∃ s, GA c ps = some s ∧ FH c ps = (s, 0) ∧ DO c s ∧ Folds s := by
 obtain ⟨s, hs⟩ := TS ps (FX c) (GU hc) h
 have hs' : GA c ps = some s := hs
 refine ⟨s, hs', ?_, bT hc hs', Pn ps _ _ (GU hc) (Wj hc) hs⟩
 unfold FH JS
 rw [hc, decide_eq_true hl, hs']; rfl
theorem aH {H H' : Heap} {w : V} {a : St} {e : Int} {r : St × Int} (h : r = (a, e)) (ha : KD H r w H') : ∃ q : SV, w = .tup [.agg (q.c a), .int .i64 e] ∧ q.Ok a ∧ Mem H H' [q.own a] := by
 rw [h] at ha
 exact ha
theorem Zb {c : Cfg} {ps : List Int} {a : St} {e : Int} (h : FH c ps = (a, e)) (H : Heap) {rv pv : V} (hr : Rows H rv c.rows) (cf : c.Fit) (hp : Sl 1 AH H pv ps) (hl : ps.length ≤ 2 ^ 47) :
  ∃ w H', Call Tryz.prog 17 [.agg (BJ c rv), pv] H w H' ∧ ∃ q : SV, w = .tup [.agg (q.c a), .int .i64 e] ∧ q.Ok a ∧ Mem H H' [q.own a] := by
 obtain ⟨w, H', h1, h2⟩ := dE H c rv pv ps hr cf hp hl
 exact ⟨w, H', h1, aH h h2⟩
theorem VP {x : Nat} (hx : x < 4294967296) : (BitVec.ofInt IntKind.u32.bits (x : Int)).toNat = x := by
 show (BitVec.ofInt 32 (x : Int)).toNat = x
 rw [BitVec.toNat_ofInt]
 omega
theorem Rn {x : Nat} (hx : x < 4294967296) : IntKind.u32.wrap (x : Int) = (x : Int) := by rw [wrap_u32]; omega
theorem PK {x y : Nat} (hx : x < 4294967296) (hy : y < 4294967296) : (x ^^^ y) < 4294967296 := Nat.xor_lt_two_pow (n := 32) hx hy
theorem NM {x y : Nat} (hx : x < 4294967296) (hy : y < 4294967296) : IntKind.u32.wrap ((BitVec.ofInt IntKind.u32.bits (x : Int) ^^^ BitVec.ofInt IntKind.u32.bits (y : Int)).toNat : Int) = ((x ^^^ y : Nat) : Int) := by
 rw [BitVec.toNat_xor, VP hx, VP hy]
 exact Rn (PK hx hy)
theorem aP {x y : Nat} (hx : x < 4294967296) (hy : y < 4294967296) : IntKind.u32.wrap ((BitVec.ofInt IntKind.u32.bits (x : Int) &&& BitVec.ofInt IntKind.u32.bits (y : Int)).toNat : Int) = ((x &&& y : Nat) : Int) := by
 rw [BitVec.toNat_and, VP hx, VP hy]
 exact Rn (Nat.lt_of_le_of_lt Nat.and_le_left hx)
theorem YW (x : Nat) : ((x : Nat) : Int).fdiv (2 ^ min (Int.toNat 1) IntKind.u32.bits) = ((x / 2 : Nat) : Int) := by
 have : (2 : Int) ^ min (Int.toNat 1) IntKind.u32.bits = 2 := by decide
 rw [this, Int.fdiv_eq_ediv_of_nonneg _ (by decide)]
 omega
theorem Wa {x : Nat} (hx : x < 4294967296) : IY x < 4294967296 := by
 unfold IY
 split
 ·exact PK (by omega) (by decide)
 ·omega
theorem fP {x : Nat} (hx : x < 4294967296) : ∃ a b c d : Nat, ((x : Nat) : Int).fdiv (2 ^ min (Int.toNat 1) IntKind.u32.bits) = (a : Int) ∧
  IntKind.u32.wrap ((BitVec.ofInt IntKind.u32.bits (x : Int) &&& BitVec.ofInt IntKind.u32.bits 1).toNat : Int) = (b : Int) ∧ IntKind.u32.wrap (0 - (b : Int)) = (c : Int) ∧
  IntKind.u32.wrap ((BitVec.ofInt IntKind.u32.bits 3988292384 &&& BitVec.ofInt IntKind.u32.bits (c : Int)).toNat : Int) = (d : Int) ∧
  IntKind.u32.wrap ((BitVec.ofInt IntKind.u32.bits (a : Int) ^^^ BitVec.ofInt IntKind.u32.bits (d : Int)).toNat : Int) = ((IY x : Nat) : Int) := by
 have h1 := aP (x := x) (y := 1) hx (by decide)
 rw [Nat.and_one_is_mod] at h1
 by_cases hb : x % 2 = 1
 ·refine ⟨x / 2, 1, 4294967295, 3988292384, YW x, by rw [← hb]; exact h1, by decide, by decide, ?_⟩
  unfold IY
  rw [if_pos hb]
  exact NM (by omega) (by decide)
 ·have h0 : x % 2 = 0 := by omega
  refine ⟨x / 2, 0, 0, 0, YW x, by rw [← h0]; exact h1, by decide, by decide, ?_⟩
  unfold IY
  rw [if_neg hb]
  have := NM (x := x / 2) (y := 0) (by omega) (by decide)
  rw [Nat.xor_zero] at this
  exact this
theorem KI : ∀ (k : Nat) {x : Nat}, x < 4294967296 → crcBits k x < 4294967296
 | 0, _, h => h
 | k + 1, _, h => KI k (Wa h)
theorem UF {x : Nat} {b : Int} (hx : x < 4294967296) (hb : 0 ≤ b ∧ b < 256) : Kx x b < 4294967296 := KI 8 (PK hx (by omega))
theorem dN {x : Nat} {b : Int} (hx : x < 4294967296) (hb : 0 ≤ b ∧ b < 256) : IntKind.u32.wrap b = b ∧ IntKind.u32.wrap ((BitVec.ofInt IntKind.u32.bits (x : Int) ^^^ BitVec.ofInt IntKind.u32.bits b).toNat : Int) = ((x ^^^ b.toNat : Nat) : Int) ∧ (x ^^^ b.toNat) < 4294967296 := by
 obtain ⟨n, rfl⟩ : ∃ n : Nat, b = (n : Int) := ⟨b.toNat, by omega⟩
 exact ⟨Rn (by omega), NM hx (by omega), PK hx (by omega)⟩
theorem Kw : ∀ (k x : Nat), crcBits (k + 1) x = IY (crcBits k x)
 | 0, _ => rfl
 | k + 1, x => by
  show crcBits (k + 1) (IY x) = _
  rw [Kw k (IY x)]
  rfl
def Gd (bs : List Int) (k : Nat) : Nat := (bs.take k).foldl Kx 4294967295
theorem No (bs : List Int) : Gd bs 0 = 4294967295 := by simp [Gd]
theorem Nn {bs : List Int} {k : Nat} {b : Int} (h : bs[k]? = some b) : Gd bs (k + 1) = Kx (Gd bs k) b := by
 unfold Gd
 rw [List.take_add_one, h]
 simp
theorem Ky {bs : List Int} (h : okB bs) : ∀ k, Gd bs k < 4294967296
 | 0 => by rw [No]; decide
 | k + 1 => by
  cases hk : bs[k]? with
  | none =>
   have hl := List.getElem?_eq_none_iff.1 hk
   have : Gd bs (k + 1) = Gd bs k := by unfold Gd; rw [List.take_of_length_le (by omega), List.take_of_length_le hl]
   rw [this]; exact Ky h k
  | some b => rw [Nn hk]; exact UF (Ky h k) (h b (List.mem_of_getElem? hk))
theorem Pb (bs : List Int) {k : Nat} (hk : bs.length ≤ k) : 4294967295 ^^^ Gd bs k = Rg bs := by unfold Gd Rg; rw [List.take_of_length_le hk]
theorem eQ {x : Nat} (hx : x < 4294967296) : IntKind.u32.wrap ((BitVec.ofInt IntKind.u32.bits (if IntKind.u32.signed then -1 else IntKind.u32.max) ^^^ BitVec.ofInt IntKind.u32.bits (x : Int)).toNat : Int) = ((4294967295 ^^^ x : Nat) : Int) := NM (x := 4294967295) (by decide) hx
theorem cE {bs : List Int} (h : okB bs) : Rg bs < 4294967296 := by rw [← Pb bs (Nat.le_refl _)]; exact PK (by decide) (Ky h _)
theorem Xe {ρ : Rho} {H H' : Heap} {x : Operand} {v : V} {bs : List Int} (hx : ρ.ev x = some (.str (strOf bs))) (hv : V.slc H.length 0 bs.length bs.length false 1 = v) (hH : H ++ [.row (V.bytesOf (strOf bs)) false] = H') : CP T ρ H (.convert 9 68 x) v H' := by
 subst hv; subst hH
 refine Cw rfl ?_ ?_
 ·simp only [pureOp, T68, T9, hx]
 ·simp only [memOp, T68, T9, T5, hx, DW]
theorem Zk (H : Heap) {bs : List Int} (ho : okB bs) : Sl 1 EO (H ++ [.row (V.bytesOf (strOf bs)) false]) (.slc H.length 0 bs.length bs.length false 1) bs := by
 refine .inr ⟨H.length, 0, bs.length, false, V.bytesOf (strOf bs), false, rfl, Nat.le_refl _, by simp, by rw [bytesOf_length, DW]; omega, fun k x hk => ?_⟩
 have hx := ho x (List.mem_of_getElem? hk)
 have hkl := (List.getElem?_eq_some_iff.1 hk).1
 have hg : (V.bytesOf (strOf bs))[k]? = some (.int .u8 x) := by
  simp only [V.bytesOf, strOf, List.getElem?_map, hk, Option.map_some, Option.some.injEq, V.int.injEq, true_and]
  have : (UInt8.ofNat x.toNat).toNat = x.toNat := by
   rw [UInt8.toNat_ofNat']
   omega
  rw [this]; omega
 show ((V.bytesOf (strOf bs)).drop (0 + k * 1)).take 1 = [V.int .u8 x]
 rw [Nat.zero_add, Nat.mul_one]
 have hkl2 : k < (V.bytesOf (strOf bs)).length := by rw [bytesOf_length, DW]; exact hkl
 rw [List.drop_eq_getElem_cons hkl2]
 rw [List.getElem?_eq_getElem hkl2] at hg
 rw [Option.some.inj hg]
 rfl
theorem dB (H : Heap) (x : Int) (k : Nat) (hk : k ≤ 8) : Call Tryz.prog 159 [.int .i64 x, .int .i64 k] H (.str (strOf (Bm x k))) H := by
 refine AJ fit mixed Tryz.func159 rfl rfl rfl (by kernel_rfl) rfl ?_
 obtain ⟨H1, hH1⟩ : ∃ H1, H ++ [.row (Bw [.int .u8 0] k) true] = H1 := ⟨_, rfl⟩
 have p1 : H <+: H1 := by rw [← hH1]; exact List.prefix_append _ _
 obtain ⟨v, hv⟩ : ∃ v, V.slc H.length 0 k k true 1 = v := ⟨_, rfl⟩
 have hm : BR 1 EO H H1 v (List.replicate k 0) := by
  have h := Dj (R := EO) (t := true) (List.prefix_refl H) (Dv (sz := 1) (z := [V.int .u8 0]) (x := (0 : Int)) rfl rfl k)
  rw [List.length_replicate, hH1, hv] at h
  exact h
 have hlen := hm.sl.len T68 rfl
 rw [List.length_replicate] at hlen
 refine goW ?_
 refine LN T68 rfl T5 ?_
 refine Bb (h' := H1) hH1 ?_
 rw [Int.toNat_natCast, hv]
 refine goW ?_
 refine AT (fun c ρ hp => ∃ j ys, j ≤ k ∧ c = k - j ∧ ys.length = k ∧ (∀ i, i < j → ys[i]? = some (Ds x i)) ∧ BR 1 EO H hp v ys ∧ ρ 0 = .int .i64 x ∧ ρ 5 = v ∧ ρ 10 = .int .i64 (k : Nat) ∧ ρ 11 = .int .i64 (j : Nat)) ⟨0, _, Nat.zero_le _, rfl, by simp, by intro i hi; omega, hm, rfl, rfl, rfl, rfl⟩ ?_
 clear hm hv hH1 p1
 rintro _ ρ hp ⟨j, ys, hj, rfl, hyl, hys, hm, h0, h5, h10, h11⟩
 refine goW ?_
 refine AE (fun hb => ?_) (fun hb => ?_)
 ·have hj' : j < k := by simpa using hb
  clear hb
  obtain ⟨b, o, hi, hst0⟩ := hm.store T68 rfl T5 rfl (k := j) (by omega)
  obtain ⟨H', hst, hm2⟩ := hst0 (.int .u8 (Ds x j)) (Ds x j) rfl rfl rfl
  have w8 : IntKind.i64.wrap (8 * (j : Int)) = ((8 * j : Nat) : Int) := by rw [show 8 * (j : Int) = ((8 * j : Nat) : Int) by omega]; exact Am (by omega)
  have hw := AG (n := j) (by omega)
  have hall : ∀ i, i < j + 1 → (ys.set j (Ds x j))[i]? = some (Ds x i) := fun i hi2 => by
   by_cases hij : i = j
   ·subst hij; rw [List.getElem?_set_self (by omega)]
   ·rw [List.getElem?_set_ne (by omega)]; exact hys i (by omega)
  clear hm hys hst0
  have hsh : vbin T .shr 3 (.int .i64 x) (.int .i64 ((8 * j : Nat) : Int)) = some (.int .i64 (x.fdiv (2 ^ min (8 * j) IntKind.i64.bits))) := by
   simp only [vbin, shiftBin]
   rw [if_neg (by omega), Int.toNat_natCast]
  have hlk : IntKind.u8.wrap (x.fdiv (2 ^ min (8 * j) IntKind.i64.bits)) = Ds x j := rfl
  repeat (first | refine AO ?_ | refine AK ?_ | refine Ae (by decide +kernel) ?_ | refine AW ?_ | refine BN ?_ | refine BM ?_ | refine Ah ?_ | refine As ?_ | refine Ag ?_ | refine AR ?_ | refine Ar ?_ | refine Ad ?_ | refine AS ?_ | refine Aq ?_ | refine Ac ?_ | refine AV rfl ?_ | refine BC (EC eLk eLk hsh) ?_ | refine CH ?_)
  refine ⟨k - (j + 1), by omega, j + 1, _, hj', rfl, by simpa using hyl, hall, hm2, ?_⟩
  simp [AD, AB, *]
 ·have hj' : j = k := by have : ¬ j < k := by simpa using hb
                         omega
  subst hj'
  clear hb
  have hyy : ys = Bm x j := by
   apply List.ext_getElem?
   intro i
   by_cases hi : i < j
   ·rw [hys i hi]; simp [Bm, hi]
   ·rw [List.getElem?_eq_none (by omega), List.getElem?_eq_none (by simp [Bm]; omega)]
  subst hyy
  have hsl := hm.sl
  have hpr := hm.1
  clear hm hys
  refine goW ?_
  refine BC (NU eLk hsl) ?_
  refine goW ?_
  refine AL (by simp only [resRf, resRs, resR]; first | done | rfl) ⟨?_, hpr⟩
  simp [AD, AB]
theorem gN (H : Heap) (bs : List Int) (ho : okB bs) (hl : bs.length ≤ 2 ^ 40) : Call Tryz.prog 160 [.str (strOf bs)] H (.int .u32 (Rg bs : Nat)) H := by
 refine AJ fit mixed Tryz.func160 rfl rfl rfl (by kernel_rfl) rfl ?_
 obtain ⟨H1, hH1⟩ : ∃ H1, H ++ [.row (V.bytesOf (strOf bs)) false] = H1 := ⟨_, rfl⟩
 have p1 : H <+: H1 := by rw [← hH1]; exact List.prefix_append _ _
 obtain ⟨v, hv⟩ : ∃ v, V.slc H.length 0 bs.length bs.length false 1 = v := ⟨_, rfl⟩
 have hsl : Sl 1 EO H1 v bs := by rw [← hH1, ← hv]; exact Zk H ho
 have hlen := hsl.len T68 rfl
 obtain ⟨n, hn⟩ : ∃ n, bs.length = n := ⟨_, rfl⟩
 rw [hn] at hlen
 refine goM ?_
 refine BC (Xe eLk hv hH1) ?_
 clear hv hH1
 refine goM ?_
 refine AT (fun m ρ hp => ∃ k : Nat, k ≤ n ∧ m = n - k ∧ H1 = hp ∧ ρ 3 = .int .u32 ((Gd bs k : Nat) : Int) ∧ ρ 7 = v ∧ ρ 8 = .int .i64 (n : Int) ∧ ρ 9 = .int .i64 (k : Int)) ⟨0, Nat.zero_le _, rfl, rfl, by rw [No]; rfl, rfl, rfl, rfl⟩ ?_
 rintro _ ρ hp ⟨k, hk, rfl, rfl, g3, g7, g8, g9⟩
 have hx0 := Ky ho k
 by_cases hk' : k < n
 ·have dk : decide ((k : Int) < (n : Int)) = true := decide_eq_true (by omega)
  obtain ⟨b, hb⟩ : ∃ b, bs[k]? = some b := ⟨bs[k]'(by omega), by simp⟩
  obtain ⟨b2, o2, _, hi2, rfl, _, hlo2, _⟩ := hsl.get T68 rfl T5 rfl hb
  have ho2 := AF T5 rfl hlo2
  have hs := Nn hb
  unfold Kx at hs
  obtain ⟨e1, e2, e3⟩ := dN hx0 (ho b (List.mem_of_getElem? hb))
  have hw := AG (n := k) (by omega)
  obtain ⟨y, hy⟩ : ∃ y, Gd bs k ^^^ b.toNat = y := ⟨_, rfl⟩
  rw [hy] at e2 e3 hs
  obtain ⟨x0, hx⟩ : ∃ x0, Gd bs k = x0 := ⟨_, rfl⟩
  rw [hx] at e2 g3
  clear hlo2 hb hy hx
  refine goM ?_
  refine AT (fun m ρ hp => ∃ j : Nat, j ≤ 8 ∧ m = 8 - j ∧ H1 = hp ∧ ρ 3 = .int .u32 ((crcBits j y : Nat) : Int) ∧ ρ 7 = v ∧ ρ 8 = .int .i64 (n : Int) ∧ ρ 9 = .int .i64 (k : Int) ∧ ρ 17 = .int .i64 (j : Int)) ⟨0, by omega, rfl, rfl, by simp [AD, AB, crcBits, *]⟩ ?_
  clear g3 g7 g8 g9
  rintro _ ρ hp ⟨j, hj, rfl, rfl, g3, g7, g8, g9, g17⟩
  by_cases hj' : j < 8
  ·have dj : decide ((j : Int) < 8) = true := decide_eq_true (by omega)
   have hwj := AG (n := j) (by omega)
   have hst := Kw j y
   have hxj := KI j e3
   obtain ⟨xj, hxe⟩ : ∃ xj, crcBits j y = xj := ⟨_, rfl⟩
   rw [hxe] at g3 hst hxj
   obtain ⟨a, bb, c, d, q1, q2, q3, q4, q5⟩ := fP hxj
   rw [← hst] at q5
   clear hst hxe dk hs
   refine goM ?_
   exact ⟨8 - (j + 1), by omega, j + 1, hj', rfl, rfl, by simp [AD, AB, *]⟩
  ·have dj : decide ((j : Int) < 8) = false := decide_eq_false (by omega)
   obtain rfl : j = 8 := by omega
   rw [← hs] at g3
   clear dk
   refine goM ?_
   exact ⟨n - (k + 1), by omega, k + 1, hk', rfl, rfl, by simp [AD, AB, *]⟩
 ·have dk : decide ((k : Int) < (n : Int)) = false := decide_eq_false (by omega)
  have hnn := eQ hx0
  rw [Pb bs (by omega)] at hnn
  obtain ⟨x0, hx⟩ : ∃ x0, Gd bs k = x0 := ⟨_, rfl⟩
  rw [hx] at hnn g3
  clear hx
  refine goM ?_
  exact AY ⟨rfl, p1⟩
theorem dD (H : Heap) (s : List Int) (ho : okB s) (hs : s.length ≤ 1024) : Call Tryz.prog 100 [.str (strOf s)] H (.tup [.str (strOf (Cc s)), .int .i64 0]) H := by
 refine AQ fit mixed Tryz.func100 rfl rfl rfl (by kernel_rfl) rfl fun hM => ?_
 have h1 := HV s
 obtain ⟨n, hn⟩ : ∃ n, s.length = n := ⟨_, rfl⟩
 have c1 := dB H n 2 (by omega)
 have a1 := HU (a := Bm n 2) (b := s) (by rw [CD]; omega)
 have hoh : okB (Bm n 2 ++ s) := GJ (HN _ _) ho
 have hhl : (Bm n 2 ++ s).length ≤ 2 ^ 40 := by rw [List.length_append, CD]; omega
 have c2 := gN H (Bm n 2 ++ s) hoh hhl
 have hlt := cE hoh
 have c3 := dB H (Rg (Bm n 2 ++ s) : Nat) 4 (by omega)
 have a2 := HU (a := Bm n 2 ++ s) (b := Bm (Rg (Bm n 2 ++ s) : Nat) 4) (by rw [List.length_append, CD, CD]; omega)
 have he : Cc s = Bm n 2 ++ s ++ Bm (Rg (Bm n 2 ++ s) : Nat) 4 := by unfold Cc KR; rw [hn]
 rw [← he] at a2
 obtain ⟨z, hz⟩ : ∃ z, Rg (Bm n 2 ++ s) = z := ⟨_, rfl⟩
 have hw : IntKind.i64.wrap (z : Int) = (z : Int) := Am (by omega)
 rw [hz] at c2 c3 a2
 have dn : decide ((n : Int) > 1024) = false := decide_eq_false (by omega)
 rw [hn] at h1
 clear he hz hlt hoh hhl hn
 generalize Bm n 2 ++ s = A at *
 generalize Bm (z : Int) 4 = B at *
 refine goM ?_
 refine AA c1 ?_
 refine goM ?_
 refine BC (EC eLk eLk a1) ?_
 refine goM ?_
 refine AA c2 ?_
 refine goM ?_
 refine AA c3 ?_
 refine goM ?_
 refine BC (EC eLk eLk a2) ?_
 refine goM ?_
 exact An ⟨rfl, hM.pre⟩
theorem ZP (H : Heap) (s : List Int) (hs : 1024 < s.length) (hl : s.length ≤ 2 ^ 40) : Call Tryz.prog 100 [.str (strOf s)] H (.tup [.str ⟨#[]⟩, .int .i64 1600]) H := by
 refine AQ fit mixed Tryz.func100 rfl rfl rfl (by kernel_rfl) rfl fun hM => ?_
 have h1 := HV s
 have dn : decide ((s.length : Int) > 1024) = true := decide_eq_true (by omega)
 refine goM ?_
 exact An ⟨rfl, hM.pre⟩
theorem UU {t : List Int} {at_ next : Nat} {s : List Int} (h : Qr t at_ = some (s, next)) : s.length ≤ 1024 ∧ next = at_ + 6 + s.length ∧ next ≤ t.length ∧ (t.drop at_).take (6 + s.length) = Cc s := by
 unfold Qr at h
 generalize (numN ((t.drop at_).take 2)).toNat = k at h
 by_cases h1 : at_ + 6 ≤ t.length
 ·rw [if_pos h1] at h
  by_cases h2 : k ≤ 1024 ∧ at_ + 6 + k ≤ t.length
  ·rw [if_pos h2] at h
   by_cases h3 : Cc ((t.drop (at_ + 2)).take k) = (t.drop at_).take (6 + k)
   ·rw [if_pos h3] at h
    cases h
    have hl : ((t.drop (at_ + 2)).take k).length = k := by rw [List.length_take, List.length_drop]; omega
    rw [hl]
    exact ⟨h2.1, rfl, h2.2, h3.symm⟩
   ·rw [if_neg h3] at h; cases h
  ·rw [if_neg h2] at h; cases h
 ·rw [if_neg h1] at h; cases h
theorem OI (t : List Int) (f at_ : Nat) : (∃ s next, Qr t at_ = some (s, next) ∧ at_ + 6 ≤ next ∧ next ≤ t.length ∧ loadN t (f + 1) at_ = (s :: (loadN t f next).1, (loadN t f next).2)) ∨ (Qr t at_ = none ∧ loadN t (f + 1) at_ = ([], at_)) := by
 cases h : Qr t at_ with
 | none =>
  refine .inr ⟨rfl, ?_⟩
  unfold loadN
  rw [h]
 | some p =>
  obtain ⟨s, next⟩ := p
  obtain ⟨_, h2, h3, _⟩ := UU h
  refine .inl ⟨s, next, rfl, by omega, h3, ?_⟩
  conv => lhs; unfold loadN
  rw [h]
def dZ (t : List Int) (a : Nat) : V := match Qr t a with
 | some (s, nx) => .tup [.str (strOf s), .int .i64 (nx : Int), .int .i64 0]
 | none => .tup [.str ⟨#[]⟩, .int .i64 0, .int .i64 1600]
theorem ZG {t : List Int} {a : Nat} {x y : Int} (hx : t[a]? = some x) (hy : t[a + 1]? = some y) : numN ((t.drop a).take 2) = y * 256 + x := by
 have e : (t.drop a).take 2 = [x, y] := by
  obtain ⟨h1, rfl⟩ := List.getElem?_eq_some_iff.1 hx
  obtain ⟨h2, rfl⟩ := List.getElem?_eq_some_iff.1 hy
  rw [List.drop_eq_getElem_cons h1, List.take_succ_cons, List.drop_eq_getElem_cons h2, List.take_succ_cons, List.take_zero]
 rw [e]
 simp only [numN]
 omega
theorem eV {x y : Int} (hx : 0 ≤ x ∧ x < 256) (hy : 0 ≤ y ∧ y < 256) : IntKind.i64.wrap ((BitVec.ofInt IntKind.i64.bits x ||| BitVec.ofInt IntKind.i64.bits (y * 256)).toNat : Int) = y * 256 + x := by
 obtain ⟨m, rfl⟩ : ∃ m : Nat, y = m := ⟨y.toNat, by omega⟩
 obtain ⟨n, rfl⟩ : ∃ n : Nat, x = n := ⟨x.toNat, by omega⟩
 have e1 : (m : Int) * 256 = ((m * 256 : Nat) : Int) := by omega
 rw [e1, BitVec.ofInt_natCast, BitVec.ofInt_natCast, BitVec.toNat_or, BitVec.toNat_ofNat, BitVec.toNat_ofNat, Nat.mod_eq_of_lt (by show _ < 2 ^ 64; omega), Nat.mod_eq_of_lt (by show _ < 2 ^ 64; omega)]
 have e2 : n ||| m * 256 = m * 256 + n := by
  have := Nat.two_pow_add_eq_or_of_lt (i := 8) (b := n) (by omega) m
  rw [Nat.or_comm, Nat.mul_comm m 256]
  exact this.symm
 rw [e2, wrap_i64 (by omega) (by omega)]
 omega
theorem gM {y : Int} (hy : 0 ≤ y ∧ y < 256) : IntKind.i64.wrap (y * 2 ^ min (Int.toNat 8) IntKind.i64.bits) = y * 256 := by
 have e8 : (2 : Int) ^ min (Int.toNat 8) IntKind.i64.bits = 256 := by decide
 rw [e8, wrap_i64 (by omega) (by omega)]
theorem Xk {a b : List Int} (ha : okB a) (hb : okB b) (h : strOf a = strOf b) : a = b := by
 have h3 := congrArg (fun s : ByteArray => s.data.toList) h
 simp only [strOf] at h3
 have key : ∀ (a b : List Int), okB a → okB b → a.map (fun n => UInt8.ofNat n.toNat) = b.map (fun n => UInt8.ofNat n.toNat) → a = b := by
  intro a
  induction a with
  | nil => intro b _ _ h; cases b with
   | nil => rfl
   | cons _ _ => simp at h
  | cons x a ih =>
   intro b h1 h2 h
   cases b with
   | nil => simp at h
   | cons y b =>
    simp only [List.map_cons, List.cons.injEq] at h
    have hx := h1 x List.mem_cons_self
    have hy := h2 y List.mem_cons_self
    have e := congrArg UInt8.toNat h.1
    rw [UInt8.toNat_ofNat', UInt8.toNat_ofNat'] at e
    rw [ih b (fun z hz => h1 z (List.mem_cons_of_mem _ hz)) (fun z hz => h2 z (List.mem_cons_of_mem _ hz)) h.2, show x = y by omega]
 exact key a b ha hb h3
theorem Xl {a b : List Int} (ha : okB a) (hb : okB b) : ((strOf a).toList == (strOf b).toList) = decide (a = b) := by
 rw [GB, Bool.eq_iff_iff, Ft, decide_eq_true_eq]
 exact ⟨Xk ha hb, fun h => by rw [h]⟩
theorem fZ (H : Heap) (t : List Int) (a : Nat) (ho : okB t) (hl : t.length ≤ 2 ^ 47) (ha : a ≤ t.length) : Call Tryz.prog 107 [.str (strOf t), .int .i64 (a : Int)] H (dZ t a) H := by
 unfold dZ Qr
 obtain ⟨n, hn⟩ : ∃ n, t.length = n := ⟨_, rfl⟩
 have h1 := HV t
 rw [hn] at h1 ha hl ⊢
 have d1 : decide ((a : Int) < 0) = false := decide_eq_false (by omega)
 have d2 : decide ((a : Int) > (n : Int)) = false := decide_eq_false (by omega)
 have w1 : IntKind.i64.wrap ((n : Int) - (a : Int)) = ((n - a : Nat) : Int) := by rw [wrap_i64 (by omega) (by omega)]; omega
 by_cases h6 : a + 6 ≤ n
 ·rw [if_pos h6]
  have d3 : decide (((n - a : Nat) : Int) < 6) = false := decide_eq_false (by omega)
  obtain ⟨x, hx⟩ : ∃ x, t[a]? = some x := ⟨t[a]'(by omega), by simp⟩
  obtain ⟨y, hy⟩ : ∃ y, t[a + 1]? = some y := ⟨t[a + 1]'(by omega), by simp⟩
  have hxb := ho x (List.mem_of_getElem? hx)
  have hyb := ho y (List.mem_of_getElem? hy)
  rw [ZG hx hy]
  obtain ⟨k, hk⟩ : ∃ k : Nat, y * 256 + x = k := ⟨(y * 256 + x).toNat, by omega⟩
  have hor := eV hxb hyb
  have hsh := gM hyb
  rw [hk] at hor ⊢
  rw [Int.toNat_natCast]
  have eR : (t.drop a).take (n - a) = t.drop a := List.take_of_length_le (by rw [List.length_drop]; omega)
  have hoR : okB (t.drop a) := fun z hz => ho z (List.mem_of_mem_drop hz)
  have hRx : (t.drop a)[0]? = some x := by rw [List.getElem?_drop]; exact hx
  have hRy : (t.drop a)[1]? = some y := by rw [List.getElem?_drop]; exact hy
  have hRl := HV (t.drop a)
  rw [List.length_drop, hn] at hRl
  have hd2 : t.drop (a + 2) = (t.drop a).drop 2 := by rw [List.drop_drop]
  rw [hd2]
  obtain ⟨R, hR⟩ : ∃ R, t.drop a = R := ⟨_, rfl⟩
  have hRn : R.length = n - a := by rw [← hR, List.length_drop, hn]
  rw [hR] at hoR hRx hRy hRl ⊢
  replace eR : (t.drop a).take (n - a) = R := eR.trans hR
  have w2 : IntKind.i64.wrap (((n - a : Nat) : Int) - 2) = ((n - a - 2 : Nat) : Int) := by rw [wrap_i64 (by omega) (by omega)]; omega
  have w3 : IntKind.i64.wrap (((n - a - 2 : Nat) : Int) - 4) = ((n - a - 6 : Nat) : Int) := by rw [wrap_i64 (by omega) (by omega)]; omega
  have wx : IntKind.i64.wrap x = x := wrap_i64 (by omega) (by omega)
  have wy : IntKind.i64.wrap y = y := wrap_i64 (by omega) (by omega)
  have hkb : k < 65536 := by omega
  clear hx hy hk hd2 hR
  by_cases hkn : a + 6 + k ≤ n
  ·have d4 : decide ((k : Int) > ((n - a - 6 : Nat) : Int)) = false := decide_eq_false (by omega)
   have w4 : IntKind.i64.wrap (2 + (k : Int)) = ((2 + k : Nat) : Int) := by rw [wrap_i64 (by omega) (by omega)]; omega
   have eS : (R.drop 2).take (2 + k - 2) = (R.drop 2).take k := by rw [Nat.add_sub_cancel_left]
   have hoS : okB ((R.drop 2).take k) := fun z hz => hoR z (List.mem_of_mem_drop (List.mem_of_mem_take hz))
   have hSl : ((R.drop 2).take k).length = k := by rw [List.length_take, List.length_drop]; omega
   by_cases hk1 : k ≤ 1024
   ·rw [if_pos ⟨hk1, hkn⟩]
    obtain ⟨s, hs⟩ : ∃ s, (R.drop 2).take k = s := ⟨_, rfl⟩
    rw [hs] at eS hoS hSl ⊢
    have c1 := dD H s hoS (by omega)
    have hfl := HV (Cc s)
    rw [KS, hSl] at hfl
    have hof : okB (Cc s) := by unfold Cc KR; exact GJ (GJ (HN _ _) hoS) (HN _ _)
    have hoT : okB (R.take (6 + k)) := fun z hz => hoR z (List.mem_of_mem_take hz)
    have eT : (R.drop 0).take (6 + k - 0) = R.take (6 + k) := by rw [List.drop_zero, Nat.sub_zero]
    have hne := Xl hof hoT
    have w5 : IntKind.i64.wrap ((a : Int) + 2) = ((a + 2 : Nat) : Int) := by rw [wrap_i64 (by omega) (by omega)]; omega
    have w6 : IntKind.i64.wrap (((a + 2 : Nat) : Int) + (k : Int)) = ((a + 2 + k : Nat) : Int) := by rw [wrap_i64 (by omega) (by omega)]; omega
    have w7 : IntKind.i64.wrap (((a + 2 + k : Nat) : Int) + 4) = ((a + 6 + k : Nat) : Int) := by rw [wrap_i64 (by omega) (by omega)]; omega
    have hq : decide (Cc s = R.take (6 + k)) = decide (Cc s = R.take (6 + k)) := rfl
    clear hs hof hoT hoS hxb hyb
    by_cases heq : Cc s = R.take (6 + k)
    ·rw [if_pos heq]
     rw [decide_eq_true heq] at hne
     clear heq hq
     generalize Cc s = F at *
     refine AQ fit mixed Tryz.func107 rfl rfl rfl (by kernel_rfl) rfl fun hM => ?_
     refine goM ?_
     refine BC (EZ a n eLk eLk eLk (DG _ rfl (by omega)) (by rw [hn]; rfl)) ?_
     rw [eR]
     refine goM ?_
     refine CU (ED 0 eLk eLk rfl hoR hRx) ?_
     refine goM ?_
     refine CU (ED 1 eLk eLk rfl hoR hRy) ?_
     refine goM ?_
     refine BC (EZ 2 (2 + k) eLk eLk eLk (DG _ rfl (by omega)) (DG _ rfl (by omega))) ?_
     rw [eS]
     refine goM ?_
     refine AA c1 ?_
     refine goM ?_
     refine BC (EZ 0 (6 + k) eLk eLk eLk rfl (DG _ rfl (by omega))) ?_
     rw [eT]
     refine goM ?_
     exact CI ⟨rfl, hM.pre⟩
    ·rw [if_neg heq]
     rw [decide_eq_false heq] at hne
     clear heq hq
     generalize Cc s = F at *
     refine AQ fit mixed Tryz.func107 rfl rfl rfl (by kernel_rfl) rfl fun hM => ?_
     refine goM ?_
     refine BC (EZ a n eLk eLk eLk (DG _ rfl (by omega)) (by rw [hn]; rfl)) ?_
     rw [eR]
     refine goM ?_
     refine CU (ED 0 eLk eLk rfl hoR hRx) ?_
     refine goM ?_
     refine CU (ED 1 eLk eLk rfl hoR hRy) ?_
     refine goM ?_
     refine BC (EZ 2 (2 + k) eLk eLk eLk (DG _ rfl (by omega)) (DG _ rfl (by omega))) ?_
     rw [eS]
     refine goM ?_
     refine AA c1 ?_
     refine goM ?_
     refine BC (EZ 0 (6 + k) eLk eLk eLk rfl (DG _ rfl (by omega))) ?_
     rw [eT]
     refine goM ?_
     exact CI ⟨rfl, hM.pre⟩
   ·rw [if_neg (fun h => hk1 h.1)]
    obtain ⟨s, hs⟩ : ∃ s, (R.drop 2).take k = s := ⟨_, rfl⟩
    rw [hs] at eS hoS hSl
    have c1 := ZP H s (by omega) (by omega)
    clear hs hoS hxb hyb
    refine AQ fit mixed Tryz.func107 rfl rfl rfl (by kernel_rfl) rfl fun hM => ?_
    refine goM ?_
    refine BC (EZ a n eLk eLk eLk (DG _ rfl (by omega)) (by rw [hn]; rfl)) ?_
    rw [eR]
    refine goM ?_
    refine CU (ED 0 eLk eLk rfl hoR hRx) ?_
    refine goM ?_
    refine CU (ED 1 eLk eLk rfl hoR hRy) ?_
    refine goM ?_
    refine BC (EZ 2 (2 + k) eLk eLk eLk (DG _ rfl (by omega)) (DG _ rfl (by omega))) ?_
    rw [eS]
    refine goM ?_
    refine AA c1 ?_
    refine goM ?_
    exact CI ⟨rfl, hM.pre⟩
  ·rw [if_neg (fun h => hkn h.2)]
   have d4 : decide ((k : Int) > ((n - a - 6 : Nat) : Int)) = true := decide_eq_true (by omega)
   clear hxb hyb
   refine AQ fit mixed Tryz.func107 rfl rfl rfl (by kernel_rfl) rfl fun hM => ?_
   refine goM ?_
   refine BC (EZ a n eLk eLk eLk (DG _ rfl (by omega)) (by rw [hn]; rfl)) ?_
   rw [eR]
   refine goM ?_
   refine CU (ED 0 eLk eLk rfl hoR hRx) ?_
   refine goM ?_
   refine CU (ED 1 eLk eLk rfl hoR hRy) ?_
   refine goM ?_
   exact CI ⟨rfl, hM.pre⟩
 ·rw [if_neg h6]
  have d3 : decide (((n - a : Nat) : Int) < 6) = true := decide_eq_true (by omega)
  clear h6
  refine AQ fit mixed Tryz.func107 rfl rfl rfl (by kernel_rfl) rfl fun hM => ?_
  refine goM ?_
  exact CI ⟨rfl, hM.pre⟩
def bsC (cs : List V) (s : List Int) : Prop := cs = [.str (strOf s)]
theorem Zr {t : List Int} {n m : Nat} (h : t.length = n) : t.take (min n m) = t.take m := by
 rcases Nat.le_total n m with h1 | h1
 ·rw [Nat.min_eq_left h1, List.take_of_length_le (by omega), List.take_of_length_le (by omega)]
 ·rw [Nat.min_eq_right h1]
theorem Vr {n k : Nat} : builtinP T .min [3, 3] [.int .i64 (n : Int), .int .i64 (k : Int)] = some (.int .i64 ((min n k : Nat) : Int)) := by
 show some (V.int .i64 (if (k : Int) < (n : Int) then (k : Int) else (n : Int))) = _
 rcases Nat.le_total n k with h1 | h1
 ·rw [if_neg (by omega), Nat.min_eq_left h1]
 ·rw [Nat.min_eq_right h1]
  split
  ·rfl
  ·rw [show n = k by omega]
theorem eH (H : Heap) (t : List Int) (ho : okB t) (hl : t.length ≤ 2 ^ 47) : ∃ w H', Call Tryz.prog 50 [.str (strOf t)] H w H' ∧ ∃ u, w = .tup [u, .int .i64 ((loadN (t.take 65536) 65537 0).2 : Int)] ∧ Mem H H' [.own 1 bsC u (Pr t)] := by
 refine Ao fit mixed Tryz.func50 rfl rfl rfl (by kernel_rfl) fun hM => ?_
 unfold Pr
 have h1 := HV t
 obtain ⟨n, hn⟩ : ∃ n, t.length = n := ⟨_, rfl⟩
 rw [hn] at h1
 have hmb : builtinP T .min [3, 3] [.int .i64 (n : Int), .int .i64 65536] = some (.int .i64 ((min n 65536 : Nat) : Int)) := Vr (k := 65536)
 have eT : (t.drop 0).take (min n 65536 - 0) = t.take 65536 := by rw [List.drop_zero, Nat.sub_zero, Zr hn]
 have hmn : min n 65536 ≤ n := Nat.min_le_left _ _
 obtain ⟨m, hm⟩ : ∃ m, min n 65536 = m := ⟨_, rfl⟩
 rw [hm] at hmb eT hmn
 have ho' : okB (t.take 65536) := fun z hz => ho z (List.mem_of_mem_take hz)
 have hl' : (t.take 65536).length ≤ 65536 := by rw [List.length_take]; omega
 obtain ⟨t', ht⟩ : ∃ t', t.take 65536 = t' := ⟨_, rfl⟩
 rw [ht] at eT ho' hl' ⊢
 obtain ⟨q, hq⟩ : ∃ q, loadN t' 65537 0 = q := ⟨_, rfl⟩
 rw [hq]
 clear hm
 refine goM ?_
 refine BC (EZ 0 m eLk eLk eLk rfl (DG _ rfl (by omega))) ?_
 rw [eT]
 refine goM ?_
 replace hM := hM.nil 1 bsC
 refine AT (m := 65537) (fun f ρ h => ∃ (p : Nat) (v : V) (acc : List (List Int)), Mem H h [.own 1 bsC v acc] ∧ p ≤ t'.length ∧ t'.length < p + 6 * f ∧ acc.length ≤ p ∧ q = (acc ++ (loadN t' f p).1, (loadN t' f p).2) ∧ ρ 0 = .str (strOf t') ∧ ρ 4 = v ∧ ρ 5 = .int .i64 (p : Int)) ⟨0, .AN, [], hM, Nat.zero_le _, by omega, Nat.le_refl _, by rw [hq]; rfl, by simp [AD, AB, BT, *]⟩ ?_
 clear hM hq h1 hmb eT hmn
 rintro f ρ h ⟨p, v, acc, hM, hp, hf, hal, hq, g0, g4, g5⟩
 obtain ⟨f', rfl⟩ : ∃ f', f = f' + 1 := ⟨f - 1, by omega⟩
 have c1 := fZ h t' p ho' (by omega) hp
 unfold dZ at c1
 rcases OI t' f' p with ⟨s, next, k1, k2, k3, k4⟩ | ⟨k1, k2⟩
 ·rw [k1] at c1
  simp only at c1
  rw [k4] at hq
  simp only at hq
  clear k1 k4
  refine goM ?_
  refine AA c1 ?_
  refine goM ?_
  refine Aa bsC [s] [.str (strOf s)] T70 rfl T9 rfl (Cells.one (sz := 1) rfl rfl) (by decide) fun e1 H1 hM => ?_
  refine goM ?_
  refine Bg (hM.sl .here) (xs := acc) (hh := .there .here) (hb := by simp only [List.length_cons, List.length_nil]; omega) fun v2 H2 hM => ?_
  replace hM := hM.drop
  refine goM ?_
  exact ⟨f', by omega, next, v2, acc ++ [s], hM, k3, by omega, by rw [List.length_append, List.length_singleton]; omega, by rw [hq, List.append_assoc]; rfl, by simp [AD, AB, *]⟩
 ·rw [k1] at c1
  simp only at c1
  rw [k2] at hq
  simp only [List.append_nil] at hq
  subst hq
  clear k1 k2
  refine goM ?_
  refine AA c1 ?_
  refine goM ?_
  exact An ⟨v, rfl, hM⟩
theorem gH (H : Heap) (b : Nat) (c : Cfg) (rv : V) (s : List Int) (hb : H[b]? = some (.row (BJ c rv) true)) (ho : okB s) :
  Call Tryz.prog 51 [.str (strOf s), .ptr b 0] H (.bool (Iv c s)) H := by
 have hl := AU (q := 0) T3 rfl hb (v := .int .i64 c.m) rfl
 have hs := HV s
 refine AQ fit mixed Tryz.func51 rfl rfl rfl (by kernel_rfl) rfl fun hM => ?_
 unfold Iv
 match s, ho, hs with
 | [], ho, hs =>
  replace hs : builtinP T .len [9] [.str (strOf [])] = some (.int .i64 0) := hs
  refine goM ?_
  exact AY ⟨rfl, hM.pre⟩
 | [x], ho, hs =>
  replace hs : builtinP T .len [9] [.str (strOf [x])] = some (.int .i64 1) := hs
  have hx := ho x List.mem_cons_self
  have wx : IntKind.i64.wrap x = x := wrap_i64 (by omega) (by omega)
  have e : (decide (([x] : List Int).length ≠ 1) || decide (([x] : List Int).headD 0 ≥ c.m)) = decide (x ≥ c.m) := by simp
  rw [e]
  refine goM ?_
  first | refine BC (ED 0 eLk eLk rfl ho rfl) ?_ | refine CU (ED 0 eLk eLk rfl ho rfl) ?_
  refine goM ?_
  exact AY ⟨rfl, hM.pre⟩
 | x :: y :: s, ho, hs =>
  obtain ⟨n, hn⟩ : ∃ n : Nat, (x :: y :: s).length = n + 2 := ⟨s.length, rfl⟩
  rw [hn] at hs ⊢
  have e : (decide (n + 2 ≠ 1) || decide ((x :: y :: s).headD 0 ≥ c.m)) = true := by rw [decide_eq_true (by omega)]; rfl
  rw [e]
  have hd : ((((n + 2 : Nat) : Int)) != 1) = true := by simp; omega
  refine goM ?_
  exact AY ⟨rfl, hM.pre⟩
theorem Wp (H : Heap) (v : V) (es : List (List Int)) (g : Nat) (caps : List V) (p : List Int → Bool) (hx : Sl 1 bsC H v es) (hl : es.length ≤ 2 ^ 47) (hg : ∀ e ∈ es, Call Tryz.prog g (.str (strOf e) :: caps) H (.bool (p e)) H) :
  Call Tryz.prog 52 [v, .fn g caps] H (.int .i64 (OA es p)) H := by
 refine AQ fit mixed Tryz.func52 rfl rfl rfl (by kernel_rfl) rfl fun hM => ?_
 obtain ⟨n, hn⟩ : ∃ n, es.length = n := ⟨_, rfl⟩
 have hlen := hx.len T70 rfl
 rw [hn] at hlen
 obtain ⟨k0, hk0⟩ : ∃ k, es.findIdx p = k := ⟨_, rfl⟩
 have hkn : k0 ≤ n := by rw [← hk0, ← hn]; exact List.findIdx_le_length
 have hres : OA es p = if k0 < n then (k0 : Int) else -1 := by unfold OA; rw [hk0, hn]
 refine goM ?_
 refine AT (fun c ρ h => ∃ k, k ≤ k0 ∧ c = n - k ∧ h = H ∧ ρ 0 = v ∧ ρ 1 = .fn g caps ∧ ρ 7 = .int .i64 (n : Int) ∧ ρ 8 = .int .i64 (k : Int)) ⟨0, Nat.zero_le _, rfl, rfl, rfl, rfl, rfl, rfl⟩ ?_
 clear hM
 rintro _ ρ h ⟨k, hk, rfl, rfl, h0, h1, h7, h8⟩
 refine goM ?_
 refine AE (fun hb => ?_) (fun hb => ?_)
 ·have hk' : k < n := by simpa using hb
  clear hb
  obtain ⟨e, he⟩ : ∃ e, es[k]? = some e := ⟨es[k]'(by omega), by simp⟩
  obtain ⟨b, o, _, hi, rfl, _, hlo, _⟩ := hx.get T70 rfl T9 rfl he
  have ho := AF T9 rfl hlo
  have hw := AG (n := k) (by omega)
  have c1 := hg e (List.mem_of_getElem? he)
  have hpe : p e = decide (k = k0) := by
   have hkl : k < es.length := by omega
   have hek : es[k] = e := by rw [List.getElem?_eq_getElem hkl] at he; exact Option.some.inj he
   by_cases hkk : k < k0
   ·have := List.not_of_lt_findIdx (xs := es) (p := p) (i := k) (by omega)
    rw [hek] at this
    rw [this]; exact (decide_eq_false (by omega)).symm
   ·obtain rfl : k = k0 := by omega
    have := List.findIdx_getElem (xs := es) (p := p) (w := by omega)
    rw [decide_eq_true rfl, ← hek]
    simpa [hk0] using this
  rw [hpe] at c1
  clear he hpe hlen hlo
  by_cases hkk : k = k0
  ·rw [decide_eq_true hkk] at c1
   rw [if_pos (by omega), ← hkk] at hres
   rw [hres]
   clear hres hk0 hkk hk hkn
   refine goM ?_
   refine AA c1 ?_
   refine goM ?_
   exact AY ⟨rfl, List.prefix_refl _⟩
  ·rw [decide_eq_false hkk] at c1
   have hk1 : k + 1 ≤ k0 := by omega
   clear hres hk0 hkk
   refine goM ?_
   refine AA c1 ?_
   refine goM ?_
   exact ⟨n - (k + 1), by omega, k + 1, hk1, rfl, rfl, by simp [AD, AB, *]⟩
 ·have hk' : k = n := by have : ¬ k < n := by simpa using hb
                         omega
  clear hb
  rw [if_neg (by omega)] at hres
  rw [hres]
  clear hres hk0
  refine goM ?_
  exact AY ⟨rfl, List.prefix_refl _⟩
theorem PI {α : Type} (p : α → Bool) : ∀ l : List α, l.takeWhile (fun x => !p x) = l.take (l.findIdx p)
 | [] => rfl
 | x :: l => by
  rw [List.findIdx_cons, List.takeWhile_cons]
  cases hp : p x with
  | true => simp
  | false => simp [PI p l]
theorem Wu {t : List Int} (ho : okB t) : ∀ s ∈ Pr t, okB s := by
 have gen : ∀ (t : List Int), okB t → ∀ f p, ∀ s ∈ (loadN t f p).1, okB s := by
  intro t ho f
  induction f with
  | zero => intro p s hs; simp [loadN] at hs
  | succ f ih =>
   intro p s hs
   rcases OI t f p with ⟨x, next, k1, k2, k3, k4⟩ | ⟨k1, k2⟩
   ·rw [k4] at hs
    rcases List.mem_cons.1 hs with rfl | hs
    ·unfold Qr at k1
     split at k1
     ·split at k1
      ·split at k1
       ·cases k1
        exact fun z hz => ho z (List.mem_of_mem_drop (List.mem_of_mem_take hz))
       ·cases k1
      ·cases k1
     ·cases k1
    ·exact ih next s hs
   ·rw [k2] at hs; cases hs
 exact gen _ (fun z hz => ho z (List.mem_of_mem_take hz)) _ _
theorem Xm {α : Type} {t : List α} {n m : Nat} (h : t.length = n) : t.take (min n m) = t.take m := by
 rcases Nat.le_total n m with h1 | h1
 ·rw [Nat.min_eq_left h1, List.take_of_length_le (by omega), List.take_of_length_le (by omega)]
 ·rw [Nat.min_eq_right h1]
theorem RQ {c : Cfg} {t : List Int} (h : Al c = false) : EX c t = (DN, 2500) := by unfold EX; rw [h, if_neg (by decide)]
theorem RP {c : Cfg} {t : List Int} (h : Al c = true) : EX c t = FH c (Uh c (Pr t)) := by unfold EX; rw [h, if_pos rfl]
theorem bI {c : Cfg} {s : List Int} (h : Iv c s = false) : ∃ x, s = [x] ∧ s.headD 0 = x := by
 unfold Iv at h
 rw [Bool.or_eq_false_iff] at h
 have h1 : s.length = 1 := by have := of_decide_eq_false h.1; omega
 match s, h1 with
 | [x], _ => exact ⟨x, rfl, rfl⟩
theorem aB {P : Program} {T : Tab} {c : Code} {n : Rho → Heap → Prop} {Q : Exit → Rho → Heap → Prop} {ρ : Rho} {h : Heap} (I : Rho → Heap → Prop) (h1 : wq P T c (Th I fun _ _ _ => False) ρ h) (h2 : ∀ ρ h, I ρ h → n ρ h) : wq P T c (Th n Q) ρ h :=
 Bt c (fun x ρ h hx => by
  cases x with
  | normal => simp only [Th] at hx; exact AR (h2 ρ h hx)
  | _ => simp only [Th] at hx) h1
theorem XT (H : Heap) (c : Cfg) (rv : V) (t : List Int) (hr : Rows H rv c.rows) (cf : c.Fit) (ho : okB t) (hl : t.length ≤ 2 ^ 47) :
  ∃ w H', Call Tryz.prog 21 [.agg (BJ c rv), .str (strOf t)] H w H' ∧ KD H (EX c t) w H' := by
 have s0 : rv.cells = [rv] ∧ rv.isTup = false := by obtain ⟨_, h, _⟩ := hr; exact h.cells
 have l1 := cf.rows
 have l2 := cf.row
 refine Ao fit mixed Tryz.func21 rfl rfl rfl (by kernel_rfl) fun hM => ?_
 refine AO (AK ?_)
 refine Ax T26 fun b2 H1 hM => ?_
 refine Aj (cs := Au) T32 rfl fun b4 H2 hM => ?_
 have c0 := Dw H2 c rv (hr.mono hM.pre) (by omega) (fun r hr => by have := l2 r hr; omega)
 cases hc : Al c with
 | false =>
  rw [hc] at c0
  have hbad := RQ (t := t) hc
  clear hc
  refine goM ?_
  refine AA c0 ?_
  refine goM ?_
  refine AM T32 fun H3 hM => ?_
  refine goM ?_
  exact An (Eu hM hbad)
 | true =>
  rw [hc] at c0
  rw [RP hc]
  clear hc
  obtain ⟨_, H3, c1, u, rfl, m1⟩ := eH H2 t ho hl
  have hul := (m1.sl .here).len T70 rfl
  have hok := Wu ho
  unfold Uh
  obtain ⟨ss, hss⟩ : ∃ ss, Pr t = ss := ⟨_, rfl⟩
  rw [hss] at m1 hul hok ⊢
  obtain ⟨n, hn⟩ : ∃ n, ss.length = n := ⟨_, rfl⟩
  rw [hn] at hul
  have hmb : builtinP T .min [3, 3] [.int .i64 (n : Int), .int .i64 256] = some (.int .i64 ((min n 256 : Nat) : Int)) := Vr (k := 256)
  have hmn : min n 256 ≤ n := Nat.min_le_left _ _
  have hm6 : min n 256 ≤ 256 := Nat.min_le_right _ _
  have etk := Xm (m := 256) hn
  rw [← etk]
  obtain ⟨m, hm⟩ : ∃ m, min n 256 = m := ⟨_, rfl⟩
  rw [hm] at hmb hmn hm6 ⊢
  obtain ⟨u2, hu2, hs2⟩ := (m1.sl .here).take (k := m) (by omega)
  have hokA : ∀ e ∈ ss.take m, okB e := fun e he => hok e (List.mem_of_mem_take he)
  have hAl : (ss.take m).length ≤ 256 := by rw [List.length_take]; omega
  clear hss hm etk hok
  generalize (loadN (t.take 65536) 65537 0).2 = to at *
  refine goM ?_
  refine AA c0 ?_
  refine goM ?_
  refine AA c1 ?_
  replace hM := hM.BH m1
  clear c0 c1 m1
  have c2 := Wp H3 u2 (ss.take m) 51 [.ptr b2 0] (Iv c) hs2 (by omega) (fun e he => gH H3 b2 c rv e (hM.row hsG) (hokA e he))
  have hwf := PI (Iv c) (ss.take m)
  have hfl := List.findIdx_le_length (xs := ss.take m) (p := Iv c)
  have hidx : OA (ss.take m) (Iv c) = if (ss.take m).findIdx (Iv c) < (ss.take m).length then (((ss.take m).findIdx (Iv c) : Nat) : Int) else -1 := rfl
  obtain ⟨k0, hk0⟩ : ∃ k, (ss.take m).findIdx (Iv c) = k := ⟨_, rfl⟩
  rw [hk0] at hwf hfl hidx
  obtain ⟨r, hrr⟩ : ∃ r, OA (ss.take m) (Iv c) = r := ⟨_, rfl⟩
  rw [hrr] at c2 hidx
  obtain ⟨u3, hu3, hs3⟩ := hs2.take (k := k0) hfl
  have hwodd : ∀ e ∈ (ss.take m).takeWhile (fun s => !Iv c s), Iv c e = false ∧ okB e := fun e he => by
   obtain ⟨h1, h2⟩ := Me _ e he
   exact ⟨by simpa using h1, hokA e h2⟩
  have hWl : ((ss.take m).takeWhile (fun s => !Iv c s)).length ≤ 256 := by rw [hwf, List.length_take]; omega
  rw [← hwf] at hs3
  have hs4 : k0 = (ss.take m).length → Sl 1 bsC H3 u2 ((ss.take m).takeWhile (fun s => !Iv c s)) := fun e => by
   rw [hwf, List.take_of_length_le (by omega)]; exact hs2
  obtain ⟨W, hW⟩ : ∃ W, (ss.take m).takeWhile (fun s => !Iv c s) = W := ⟨_, rfl⟩
  rw [hW] at hs3 hs4 hwodd hWl ⊢
  clear hwf hk0 hrr hW hokA
  replace hidx : Held (r = if k0 < (ss.take m).length then (k0 : Int) else -1) := hidx
  refine goM ?_
  refine AA c2 ?_
  clear c2
  refine goM ?_
  refine aB (fun ρ h => ∃ v3, Mem H h [.box b4 Au, .box b2 (BJ c rv)] ∧ Sl 1 bsC h v3 W ∧ ρ 2 = .ptr b2 0 ∧ ρ 4 = .ptr b4 0 ∧ ρ 6 = v3) ?_ ?_
  ·refine AE (fun hb => ?_) (fun hb => ?_)
   ·have h0 : r ≥ 0 := by simpa using hb
    have hidx' : r = if k0 < (ss.take m).length then (k0 : Int) else -1 := hidx
    clear hidx
    have hr2 : r = (k0 : Int) := by
     by_cases hlt : k0 < (ss.take m).length
     ·rw [if_pos hlt] at hidx'; exact hidx'
     ·rw [if_neg hlt] at hidx'; omega
    clear hb h0 hidx' hs4
    subst hr2
    refine goM ?_
    exact ⟨u3, hM.Ea, hs3, by simp [AD, AB, BT, *]⟩
   ·have h0 : ¬ r ≥ 0 := by simpa using hb
    have hke : k0 = (ss.take m).length := by
     have hidx' : r = if k0 < (ss.take m).length then (k0 : Int) else -1 := hidx
     rw [hidx'] at h0
     by_cases hlt : k0 < (ss.take m).length
     ·rw [if_pos hlt] at h0; omega
     ·omega
    have hs5 := hs4 hke
    clear hb h0 hidx hs4 hke
    refine goM ?_
    exact ⟨u2, hM.Ea, hs5, by simp [AD, AB, BT, *]⟩
  ·repeat clear hM
   clear hs3 hs4 hidx hs2 hu2 hu3 hmb hul
   rintro ρ h ⟨v3, hM, hs3, g2, g4, g6⟩
   have hwl := hs3.len T70 rfl
   obtain ⟨n2, hn2⟩ : ∃ n2, W.length = n2 := ⟨_, rfl⟩
   rw [hn2] at hwl
   obtain ⟨h0, hh0⟩ : ∃ h0, h = h0 := ⟨_, rfl⟩
   rw [hh0] at hM hs3 ⊢
   clear hh0
   refine goM ?_
   have hN := (Mem.start h0).nil 1 AH
   have hM0 : Held (Mem H h0 [.box b4 Au, .box b2 (BJ c rv)]) := hM
   refine AT (fun cc ρ h => ∃ (k : Nat) (v : V), k ≤ n2 ∧ cc = n2 - k ∧ Mem h0 h [.own 1 AH v ((W.map fun s => s.headD 0).take k)] ∧ ρ 2 = .ptr b2 0 ∧ ρ 4 = .ptr b4 0 ∧ ρ 10 = v ∧ ρ 36 = v3 ∧ ρ 37 = .int .i64 (n2 : Int) ∧ ρ 38 = .int .i64 (k : Int)) ⟨0, .AN, Nat.zero_le _, rfl, hN, by simp [AD, AB, *]⟩ ?_
   repeat clear hM
   clear g2 g4 g6 hN
   rintro _ ρ h ⟨k, v, hk, rfl, hM, g2, g4, g10, g36, g37, g38⟩
   by_cases hk' : k < n2
   ·have dk : decide ((k : Int) < (n2 : Int)) = true := decide_eq_true (by omega)
    have hw := AG (n := k) (by omega)
    obtain ⟨e, he⟩ : ∃ e, W[k]? = some e := ⟨W[k]'(by omega), by simp⟩
    obtain ⟨b5, o5, _, hi5, rfl, _, hlo5, _⟩ := (hs3.mono hM.pre).get T70 rfl T9 rfl he
    have ho5 := AF T9 rfl hlo5
    obtain ⟨hod, hob⟩ := hwodd e (List.mem_of_getElem? he)
    obtain ⟨x, rfl, hx⟩ := bI hod
    have hxb := hob x List.mem_cons_self
    have wx : IntKind.i64.wrap x = x := wrap_i64 (by omega) (by omega)
    have htk : ((W.map fun s => s.headD 0).take k) ++ [x] = (W.map fun s => s.headD 0).take (k + 1) := by
     have : (W.map fun s => s.headD 0)[k]? = some x := by rw [List.getElem?_map, he]; rfl
     rw [List.take_add_one, this]; rfl
    have hal : ((W.map fun s => s.headD 0).take k).length ≤ 256 := by rw [List.length_take]; omega
    clear he hlo5 hod hx hwodd
    refine goM ?_
    refine BC (ED 0 eLk eLk rfl hob rfl) ?_
    refine goM ?_
    refine Aa AH [x] [.int .i64 x] T27 rfl T3 rfl (Ba [x]) (by decide) fun e1 H4 hM => ?_
    refine goM ?_
    refine Bg (hM.sl .here) (xs := (W.map fun s => s.headD 0).take k) (hh := .there .here) (hb := by simp only [List.length_cons, List.length_nil]; omega) fun v2 H5 hM => ?_
    rw [htk] at hM
    replace hM := hM.drop
    clear htk
    refine goM ?_
    exact ⟨n2 - (k + 1), by omega, k + 1, v2, hk', rfl, hM, by simp [AD, AB, *]⟩
   ·have dk : decide ((k : Int) < (n2 : Int)) = false := decide_eq_false (by omega)
    rw [List.take_of_length_le (by rw [List.length_map]; omega)] at hM
    have hM1 : Mem H h0 [.box b4 Au, .box b2 (BJ c rv)] := hM0
    replace hM := hM1.BH hM
    clear hM1 hM0
    obtain ⟨_, H4, c3, q, rfl, k3, m3⟩ := dE h c rv v (W.map fun s => s.headD 0) (hr.mono hM.pre) cf (hM.sl .here) (by rw [List.length_map]; omega)
    clear hwodd hs3
    generalize FH c (W.map fun s => s.headD 0) = A at *
    refine goM ?_
    refine AA c3 ?_
    replace hM := hM.BH m3
    clear c3 m3
    refine goM ?_
    refine AM T32 fun H5 hM => ?_
    refine goM ?_
    exact An ⟨q, rfl, k3, hM.Ea⟩
end Go.Proofs.YtncjbjlmgnjhiaaGreat.VM
