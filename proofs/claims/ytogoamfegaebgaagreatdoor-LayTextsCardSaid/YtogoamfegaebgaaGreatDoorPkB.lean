/-
  Texts of this claim, joined by a program of mine: what the theorem uses.
-/
import Derived.Test.YtogoamfegaebgaaGreatDoorPkA
import Derived.MapKept
import Derived.Maps.RangeRun
import Derived.Lib.AppendStr
import Derived.Lib.UnsafeStr
import Derived.Lib.FrozenHead
import Derived.ProofKit
import Derived.Test.YtogoamfegaebgaaGreatDoorProg
import Derived.Lib.ItoaNum
import Derived.Lib.LaidTab
import Derived.Lib.AppendIntMem
import Derived.Lib.AtoiErrMem
import Derived.Shelf.Strings.SlTrimAscii
import Derived.KernelRfl
import Derived.Shelf.Strings.Builder1
import Derived.Shelf.Strings.Builder2
import Derived.Shelf.Strings.OnBuilder
import Derived.Shelf.Strings.Trim
import Derived.Shelf.Small.Utf8
import Derived.Shelf.Small.Strs
import Derived.Shelf.Small.Wraps
import Derived.Shelf.Strings.BuilderF
import Derived.Shelf.Strings.BuilderK
import Derived.Shelf.Strings.Builder2Cap
import Derived.Shelf.Strconv.Atoi
import Derived.Shelf.Strconv.Itoa0
import Derived.Shelf.Strconv.Itoa1
import Derived.Shelf.LaysM
import Derived.Shelf.Strconv.Itoa2
import Derived.Shelf.Strconv.Itoa3
import Derived.Shelf.Strconv.AtoiErrFast
import Derived.Shelf.Strconv.ParseIntEmpty
import Derived.Shelf.Strconv.AtoiFail
import Derived.Shelf.Strconv.Clone
import Derived.Shelf.Strconv.SyntaxError
import Derived.Shelf.LaysC
import Derived.Shelf.Strconv.ToError
import Derived.Shelf.Strconv.AtoiErr
import Derived.Shelf.Strconv.Lower
import Derived.Shelf.Strconv.ParseUint10
import Derived.Shelf.Strconv.ParseUint10Empty
import Derived.Shelf.Strconv.ParseUint10Any
import Derived.Shelf.Strconv.ParseInt10
import Derived.Shelf.Strconv.AtoiLong
import Derived.Shelf.Strconv.AtoiInnerAll
import Derived.Shelf.Strconv.RangeError
import Derived.Shelf.Strconv.ToErrorRange
import Derived.Shelf.Strconv.AtoiAll
import Derived.Shelf.Strconv.ParseUintEmpty
import Derived.Shelf.Strconv.ParseUint10b64
import Derived.Shelf.Strconv.ParseUint10b32
import Derived.Shelf.Strconv.ParseUint10b16
import Derived.Shelf.Strconv.ParseUint10b8
import Derived.Shelf.Strconv.ParseUint10At
import Derived.Shelf.Strings.Search1
import Derived.Shelf.Strings.Prefix
import Derived.Shelf.Unicode.Decode
import Derived.Shelf.Strings.Runes
import Derived.Shelf.Strings.AsciiSet
import Derived.Shelf.Unicode.DecodeSlow
import Derived.Shelf.Unicode.DecodeAny
import Derived.Shelf.Strings.BuilderCap
set_option linter.unusedSectionVars false
set_option linter.unusedSimpArgs false
section
namespace Go.Awp
variable [Inhabited GMem]
theorem run_append_at {P : Program} {w : World} (t ty e : TypeId) (i : TypeInfo) (z : Value) (size bytes : Nat) (ht : P.underlying t = some (.slice e)) (hi : P.info? e = some i) (hz : i.zero = some z)
  (hsize : i.size = size) (hby : i.bytes = bytes) (hzs : z.cells.size = size) (hsz : 0 < size) (v : Value) (n : Nat) (xs : List Value) (hown : w.ownsRow 0 e size v n xs)
  (x : Value) (news : List Value) (m : Nat) (hl : news.length = m * size) (hx : (x = .slice none 0 0 ∧ m = 0) ∨ ∃ a c, x = .slice (some a) m c ∧ ∀ (j : Nat) u, news[j]? = some u → w.cell? (a.add j) = some u)
  (h1 : ∀ u ∈ news, u.oneCell' = true) (h63 : n + m ≤ 1000000000000) (hbytes : (n + m) * bytes ≤ 140737488355328) :
  ∃ v' w', (Builtin.append_ #[t, t] ty #[v, x]).run P w = .ok v' w' ∧ w'.ownsRow 0 e size v' (n + m) (xs ++ news) ∧ w.grownBy w' (blockOf v) ∧
   ∀ b, blockOf v' = some b → blockOf v = some b ∨ w.heap.size ≤ b := by
 have hb : blockOf v = v.ownBlock := by
  rcases hown.2 with ⟨rfl, _⟩ | ⟨g, cap, cur, rfl, _⟩ <;> rfl
 rcases hx with ⟨rfl, rfl⟩ | ⟨a, c, rfl, hnews⟩
 ·have hn0 : news = [] := List.eq_nil_of_length_eq_zero (by simpa using hl)
  subst hn0
  refine ⟨v, w, run_append_owned_none (P := P) w 0 t ty e i size ht hi v n xs hown, by simpa using hown, ⟨rfl, rfl, rfl, Nat.le_refl _, fun _ _ _ => rfl⟩, fun b hb => .inl hb⟩
 ·have hmax : n + m ≤ maxLen := by unfold maxLen; omega
  obtain ⟨v', w', e1, e2, e3, _⟩ := run_append_own (P := P) w 0 t ty e i z size bytes ht hi hz hsize hby hzs hsz v n xs hown a m c news hl hnews h1 hmax hbytes (Nat.zero_le _)
  refine ⟨v', w', e1, e2, by rw [hb]; exact e3, fun b hbv => ?_⟩
  rcases hown.2 with ⟨rfl, rfl⟩ | ⟨g, cap, cur, rfl, hbg, hg, hnc, hcm, hcs, htake⟩
  ·obtain ⟨v2, w2, f1, f2, _⟩ := run_append_own (P := P) w w.heap.size t ty e i z size bytes ht hi hz hsize hby hzs hsz (.slice none 0 0) 0 [] (World.ownsRow_nil w _ e size) a m c news hl hnews h1 hmax hbytes (Nat.le_refl _)
   rw [e1] at f1
   simp only [Result.ok.injEq] at f1
   obtain ⟨rfl, rfl⟩ := f1
   right
   rcases f2.2 with ⟨hn, _⟩ | ⟨g2, cap2, cur2, hv2, hb2, _⟩
   ·rw [hn] at hbv; simp [blockOf] at hbv
   ·rw [hv2] at hbv; simp [blockOf] at hbv; omega
  ·by_cases hroom : n + m ≤ cap
   ·obtain ⟨w2, f1, _⟩ := run_append_fits (P := P) w 0 t ty e i size ht hi hsize g n cap xs hown a m c news hl hnews h1 hroom
    rw [e1] at f1
    simp only [Result.ok.injEq] at f1
    obtain ⟨rfl, _⟩ := f1
    left; simpa [blockOf] using hbv
   ·subst hsize; subst hby
    have holds : ∀ j u, xs[j]? = some u → w.cell? ((⟨g, 0, none⟩ : Addr).add j) = some u := hown.cells (g := g) rfl
    have f1 := run_append_grow (P := P) w t ty e i z ht hi hz ⟨g, 0, none⟩ n cap xs hown.1 holds a m c news hl hnews (by omega) (by omega) (growslice_fits (by omega) hbytes)
    rw [e1] at f1
    simp only [Result.ok.injEq] at f1
    obtain ⟨rfl, _⟩ := f1
    right; simp [blockOf] at hbv; omega
theorem DRep.sl_cells {M : Mem} {v : Value} {sz : Nat} {rows : List (List D)} (h : DRep M v (.sl sz rows)) :
  (v = .slice none 0 0 ∧ rows = []) ∨ (∃ a cap, v = .slice (some a) 0 cap ∧ rows = []) ∨ ∃ b off cap, v = .slice (some ⟨b, off, none⟩) rows.length cap ∧ rows.length ≤ cap ∧ ∃ cs : List Value, cs.length = rows.length * sz ∧
    (∀ (k : Nat) u, cs[k]? = some u → M b (off + k) = some u) ∧ (∀ r ∈ rows, r.length = sz) ∧
    ∀ (i j : Nat) (r : List D) (c : Value) (x : D), rows[i]? = some r → r[j]? = some x → cs[i * sz + j]? = some c → DRep M c x := by
 cases h with
 | slnil sz => exact .inl ⟨rfl, rfl⟩
 | slmt a cap sz => exact .inr (.inl ⟨a, cap, rfl, rfl⟩)
 | sl b off len cap sz rows c hlen hcap hsz hm hc =>
  subst hlen
  refine .inr (.inr ⟨b, off, cap, rfl, hcap, (List.range (rows.length * sz)).map c, by simp, fun k u hu => ?_, hsz, fun i j r c' x hr hx hcc => ?_⟩)
  ·simp only [List.getElem?_map] at hu
   by_cases hk : k < rows.length * sz
   ·rw [List.getElem?_range hk] at hu
    simp at hu; subst hu; exact hm k hk
   ·rw [List.getElem?_eq_none (by simp; omega)] at hu; cases hu
  ·simp only [List.getElem?_map] at hcc
   by_cases hk : i * sz + j < rows.length * sz
   ·rw [List.getElem?_range hk] at hcc
    simp at hcc; subst hcc; exact hc i j r x hr hx
   ·rw [List.getElem?_eq_none (by simp; omega)] at hcc; cases hcc
theorem run_checkKey_simple {P : Program} {w : World} {kt : TypeId} {kind : TypeDesc} (hu : P.underlying kt = some kind) (hs : simpleKey kind = true) (e : Bool) (v : Value) : (Instr.checkKey e 10000 kt v).run P w = .ok () w := by
 unfold Instr.checkKey
 simp only [Sem.run_bind, run_underlying hu, Result.andThen_ok]
 cases kind <;> simp [simpleKey] at hs <;> rfl
def MRep (M : Mem) : List MapEntry → List (Value × D) → Prop
 | [], [] => True
 | e :: r, p :: s => (e.key = p.1 ∧ DRep M e.val p.2) ∧ MRep M r s
 | _, _ => False
theorem MRep.of {M : Mem} : ∀ {l : List MapEntry} {es : List (Value × D)}, l.length = es.length → (∀ (i : Nat) (e : MapEntry) (p : Value × D), l[i]? = some e → es[i]? = some p → e.key = p.1 ∧ DRep M e.val p.2) → MRep M l es
 | [], [], _, _ => trivial
 | [], _ :: _, h, _ => by simp at h
 | _ :: _, [], h, _ => by simp at h
 | e :: r, p :: s, h, hp => ⟨hp 0 e p rfl rfl, MRep.of (by simpa using h) fun i e' p' he hp' => hp (i + 1) e' p' (by simpa using he) (by simpa using hp')⟩
theorem MRep.get {M : Mem} : ∀ {l : List MapEntry} {es : List (Value × D)}, MRep M l es → l.length = es.length ∧ ∀ (i : Nat) (e : MapEntry) (p : Value × D), l[i]? = some e → es[i]? = some p → e.key = p.1 ∧ DRep M e.val p.2
 | [], [], _ => ⟨rfl, fun i e p he => by simp at he⟩
 | [], _ :: _, h => h.elim
 | _ :: _, [], h => h.elim
 | e :: r, p :: s, h => by
  obtain ⟨h1, h2⟩ := h.2.get
  refine ⟨by simp [h1], fun i e' p' he hp => ?_⟩
  cases i with
  | zero => simp at he hp; subst he; subst hp; exact h.1
  | succ i => exact h2 i e' p' (by simpa using he) (by simpa using hp)
theorem sameNow_eq {kind : TypeDesc} {a b : Value} (h : Instr.sameNow kind a b = some true) : a = b := by
 unfold Instr.sameNow at h
 split at h
 ·rename_i k x k' y
  split at h
  ·rename_i hk
   subst hk
   have : x = y := by simpa using h
   subst this; rfl
  ·cases h
 ·rename_i x y
  have : x = y := (MapKept.bytes_beq x y).1 (by simpa using h)
  subst this; rfl
 ·rename_i x y
  have : x = y := by simpa using h
  subst this; rfl
 ·cases h
theorem sameNow_ne {kind : TypeDesc} {a b : Value} (h : Instr.sameNow kind a b = some false) : a ≠ b := by
 intro e
 subst e
 have hb : ∀ x : ByteArray, (x == x) = true := fun x => (MapKept.bytes_beq x x).2 rfl
 cases kind <;> cases a <;> simp [Instr.sameNow, hb] at h
theorem Entries.iff {M : Mem} {l : List MapEntry} {es : List (Value × D)} : Entries M l es ↔ ∃ l' : List MapEntry, l'.Perm l ∧ MRep M l' es :=
 ⟨fun ⟨l', h1, h2, h3⟩ => ⟨l', h1, MRep.of h2 h3⟩, fun ⟨l', h1, h2⟩ => ⟨l', h1, h2.get.1, h2.get.2⟩⟩
theorem MRep.perm {M : Mem} {es es' : List (Value × D)} (h : es.Perm es') : ∀ {l : List MapEntry}, MRep M l es → ∃ l', l'.Perm l ∧ MRep M l' es' := by
 induction h with
 | nil => intro l hl; exact ⟨l, .refl l, hl⟩
 | cons x _ ih =>
  intro l hl
  cases l with
  | nil => exact hl.elim
  | cons e r =>
   obtain ⟨r', h1, h2⟩ := ih hl.2
   exact ⟨e :: r', h1.cons e, hl.1, h2⟩
 | swap x y r =>
  intro l hl
  match l, hl with
  | a :: b :: t, hl => exact ⟨b :: a :: t, .swap a b t, hl.2.1, hl.1, hl.2.2⟩
  | [a], hl => exact hl.2.elim
  | [], hl => exact hl.elim
 | trans _ _ ih1 ih2 =>
  intro l hl
  obtain ⟨l1, h1, h2⟩ := ih1 hl
  obtain ⟨l2, h3, h4⟩ := ih2 h2
  exact ⟨l2, h3.trans h1, h4⟩
theorem Entries.perm {M : Mem} {l : List MapEntry} {es es' : List (Value × D)} (h : Entries M l es) (hp : es.Perm es') : Entries M l es' := by
 obtain ⟨l', h1, h2⟩ := Entries.iff.1 h
 obtain ⟨l2, h3, h4⟩ := h2.perm hp
 exact Entries.iff.2 ⟨l2, h3.trans h1, h4⟩
theorem KeysNd.perm {es es' : List (Value × D)} (h : KeysNd es) (hp : es.Perm es') : KeysNd es' := ((hp.map _).nodup_iff).1 h
theorem Entries.to {M : Mem} {l : List MapEntry} {es : List (Value × D)} (h : Entries M l es) {e : MapEntry} (he : e ∈ l) : ∃ p ∈ es, e.key = p.1 ∧ DRep M e.val p.2 := by
 obtain ⟨l', h1, h2, h3⟩ := h
 obtain ⟨i, hi⟩ := List.getElem?_of_mem (h1.mem_iff.2 he)
 have hil : i < es.length := by rw [← h2]; exact (List.getElem?_eq_some_iff.1 hi).1
 have hp := List.getElem?_eq_getElem hil
 exact ⟨_, List.mem_of_getElem? hp, h3 i e _ hi hp⟩
theorem Entries.of {M : Mem} {l : List MapEntry} {es : List (Value × D)} (h : Entries M l es) {p : Value × D} (hp : p ∈ es) : ∃ e ∈ l, e.key = p.1 ∧ DRep M e.val p.2 := by
 obtain ⟨l', h1, h2, h3⟩ := h
 obtain ⟨i, hi⟩ := List.getElem?_of_mem hp
 have hil : i < l'.length := by rw [h2]; exact (List.getElem?_eq_some_iff.1 hi).1
 have he := List.getElem?_eq_getElem hil
 exact ⟨_, h1.mem_iff.1 (List.mem_of_getElem? he), h3 i _ p he hi⟩
theorem MRep.keys {M : Mem} : ∀ {l : List MapEntry} {es : List (Value × D)}, MRep M l es → l.map (·.key) = es.map (·.1)
 | [], [], _ => rfl
 | [], _ :: _, h => h.elim
 | _ :: _, [], h => h.elim
 | e :: r, p :: s, h => by rw [List.map_cons, List.map_cons, h.1.1, h.2.keys]
theorem Entries.nodup {M : Mem} {l : List MapEntry} {es : List (Value × D)} (h : Entries M l es) (hn : KeysNd es) : (l.map (·.key)).Nodup := by
 obtain ⟨l', h1, h2⟩ := Entries.iff.1 h
 exact ((h1.map _).nodup_iff).1 (by rw [h2.keys]; exact hn)
theorem key_one : ∀ {l : List MapEntry} {a b : MapEntry}, (l.map (·.key)).Nodup → a ∈ l → b ∈ l → a.key = b.key → a = b
 | [], a, b, _, h, _, _ => by cases h
 | x :: r, a, b, hn, ha, hb, hk => by
  rw [List.map_cons, List.nodup_cons] at hn
  rcases List.mem_cons.1 ha with e1 | ha
  ·rcases List.mem_cons.1 hb with e2 | hb
   ·rw [e1, e2]
   ·exact (hn.1 (by rw [← e1, hk]; exact List.mem_map_of_mem (f := (·.key)) hb)).elim
  ·rcases List.mem_cons.1 hb with e2 | hb
   ·exact (hn.1 (by rw [← e2, ← hk]; exact List.mem_map_of_mem (f := (·.key)) ha)).elim
   ·exact key_one hn.2 ha hb hk
theorem Entries.len {M : Mem} {l : List MapEntry} {es : List (Value × D)} (h : Entries M l es) : l.length = es.length := by
 obtain ⟨l', h1, h2, _⟩ := h
 rw [← h1.length_eq, h2]
theorem perm_erase {α : Type} : ∀ {l : List α} {j : Nat} {e : α}, l[j]? = some e → l.Perm (e :: l.eraseIdx j)
 | [], j, e, h => by simp at h
 | x :: r, 0, e, h => by simp at h; subst h; exact .refl _
 | x :: r, j + 1, e, h => ((perm_erase (l := r) (j := j) (by simpa using h)).cons x).trans (.swap e x _)
theorem findM_all {kind : TypeDesc} {key : Value} : ∀ {es : List (Value × D)} {q : Option D}, findM kind key es = some q →
  (q = none ∧ ∀ p ∈ es, Instr.sameNow kind key p.1 = some false) ∨ ∃ p ∈ es, q = some p.2 ∧ Instr.sameNow kind key p.1 = some true
 | [], q, h => by simp [findM] at h; subst h; exact .inl ⟨rfl, fun p hp => by cases hp⟩
 | p :: r, q, h => by
  simp only [findM] at h
  split at h
  ·rename_i hs
   simp at h; subst h
   exact .inr ⟨p, List.mem_cons_self, rfl, hs⟩
  ·rename_i hs
   rcases findM_all h with ⟨h1, h2⟩ | ⟨p', h1, h2, h3⟩
   ·refine .inl ⟨h1, fun p' hp' => ?_⟩
    rcases List.mem_cons.1 hp' with rfl | hp'
    ·exact hs
    ·exact h2 p' hp'
   ·exact .inr ⟨p', List.mem_cons_of_mem _ h1, h2, h3⟩
  ·cases h
theorem setM_all {kind : TypeDesc} {key : Value} {x : D} : ∀ {es es' : List (Value × D)}, setM kind key x es = some es' →
  (es' = es ++ [(key, x)] ∧ ∀ p ∈ es, Instr.sameNow kind key p.1 = some false) ∨ ∃ (j : Nat) (p : Value × D), es[j]? = some p ∧ Instr.sameNow kind key p.1 = some true ∧ es' = es.set j (key, x)
 | [], es', h => by simp [setM] at h; subst h; exact .inl ⟨rfl, fun p hp => by cases hp⟩
 | p :: r, es', h => by
  simp only [setM] at h
  split at h
  ·rename_i hs
   simp at h; subst h
   exact .inr ⟨0, p, rfl, hs, rfl⟩
  ·rename_i hs
   split at h
   ·rename_i l' hl
    simp at h; subst h
    rcases setM_all hl with ⟨h1, h2⟩ | ⟨j, p', h1, h2, h3⟩
    ·refine .inl ⟨by rw [h1]; rfl, fun p' hp' => ?_⟩
     rcases List.mem_cons.1 hp' with rfl | hp'
     ·exact hs
     ·exact h2 p' hp'
    ·exact .inr ⟨j + 1, p', by simpa using h1, h2, by rw [h3]; rfl⟩
   ·cases h
  ·cases h
theorem findNow_all {kind : TypeDesc} {key : Value} : ∀ {l : List MapEntry} (i : Nat), (∀ e ∈ l, (Instr.sameNow kind key e.key).isSome = true) →
  ((∀ e ∈ l, Instr.sameNow kind key e.key = some false) ∧ Instr.findNow kind key l i = some none) ∨
  ∃ (j : Nat) (e : MapEntry), l[j]? = some e ∧ Instr.sameNow kind key e.key = some true ∧ Instr.findNow kind key l i = some (some (i + j, e.val))
 | [], i, _ => .inl ⟨(fun e he => by cases he), rfl⟩
 | x :: r, i, h => by
  have h0 := h x List.mem_cons_self
  simp only [Instr.findNow]
  cases hs : Instr.sameNow kind key x.key with
  | none => rw [hs] at h0; cases h0
  | some b =>
   cases b with
   | true => exact .inr ⟨0, x, rfl, hs, rfl⟩
   | false =>
    rcases findNow_all (i + 1) (fun e he => h e (List.mem_cons_of_mem _ he)) with ⟨h1, h2⟩ | ⟨j, e, h1, h2, h3⟩
    ·refine .inl ⟨fun e he => ?_, h2⟩
     rcases List.mem_cons.1 he with rfl | he
     ·exact hs
     ·exact h1 e he
    ·refine .inr ⟨j + 1, e, by simpa using h1, h2, ?_⟩
     simp only
     rw [h3]
     have : i + 1 + j = i + (j + 1) := by omega
     rw [this]
theorem Entries.strict {M : Mem} {l : List MapEntry} {es : List (Value × D)} (h : Entries M l es) {kind : TypeDesc} {key : Value} (hs : strictM kind key es = true) : ∀ e ∈ l, (Instr.sameNow kind key e.key).isSome = true := fun e he => by
 obtain ⟨p, hp, hk, _⟩ := h.to he
 rw [hk]
 exact List.all_eq_true.1 hs p hp
theorem findM_perm {M : Mem} {kind : TypeDesc} {key : Value} {l : List MapEntry} {es : List (Value × D)} {q : Option D} (hn : KeysNd es) (h : Entries M l es) (hs : strictM kind key es = true) (hq : findM kind key es = some q) :
  (q = none ∧ Instr.findNow kind key l 0 = some none) ∨ ∃ j v d, q = some d ∧ Instr.findNow kind key l 0 = some (some (j, v)) ∧ DRep M v d := by
 rcases findM_all hq with ⟨rfl, hall⟩ | ⟨p, hp, rfl, ht⟩
 ·rcases findNow_all (kind := kind) (key := key) 0 (h.strict hs) with ⟨_, h1⟩ | ⟨j, e, he, ht, _⟩
  ·exact .inl ⟨rfl, h1⟩
  ·obtain ⟨p, hp, hk, _⟩ := h.to (List.mem_of_getElem? he)
   rw [hk, hall p hp] at ht; cases ht
 ·obtain ⟨e1, he1, hk1, hd1⟩ := h.of hp
  rcases findNow_all (kind := kind) (key := key) 0 (h.strict hs) with ⟨hall, _⟩ | ⟨j, e, he, ht', hf⟩
  ·have := hall e1 he1
   rw [hk1, ht] at this; cases this
  ·have hee : e = e1 := key_one (h.nodup hn) (List.mem_of_getElem? he) he1 (by rw [hk1, ← sameNow_eq ht, ← sameNow_eq ht'])
   subst hee
   exact .inr ⟨_, _, _, rfl, hf, hd1⟩
theorem perm_set {α : Type} {l : List α} {j : Nat} {e a : α} (h : l[j]? = some e) : (l.set j a).Perm (a :: l.eraseIdx j) ∧ l.Perm (e :: l.eraseIdx j) := by
 have hj : j < l.length := (List.getElem?_eq_some_iff.1 h).1
 have h2 := perm_erase (l := l.set j a) (j := j) (e := a) (by simp [hj])
 rw [List.eraseIdx_set_eq] at h2
 exact ⟨h2, perm_erase h⟩
theorem setM_perm {M : Mem} {kind : TypeDesc} {key : Value} {x : D} {l : List MapEntry} {es es2 : List (Value × D)} (hn : KeysNd es) (h : Entries M l es) (hs : strictM kind key es = true) (hq : setM kind key x es = some es2) :
  (Instr.findNow kind key l 0 = some none ∧ KeysNd es2 ∧ ∀ e1 : MapEntry, e1.key = key → DRep M e1.val x → Entries M (l ++ [e1]) es2) ∨
  ∃ (j : Nat) (v : Value) (e0 : MapEntry), Instr.findNow kind key l 0 = some (some (j, v)) ∧ l[j]? = some e0 ∧ Instr.sameNow kind key e0.key = some true ∧ KeysNd es2 ∧ ∀ e1 : MapEntry, e1.key = key → DRep M e1.val x → Entries M (l.set j e1) es2 := by
 rcases setM_all hq with ⟨rfl, hall⟩ | ⟨j0, p, hp, ht, rfl⟩
 ·rcases findNow_all (kind := kind) (key := key) 0 (h.strict hs) with ⟨_, h1⟩ | ⟨j, e, he, ht, _⟩
  ·refine .inl ⟨h1, ?_, fun e1 hk hd => ?_⟩
   ·unfold KeysNd
    rw [List.map_append, List.map_cons, List.map_nil, List.nodup_append]
    refine ⟨hn, by simp, fun a ha b hb => ?_⟩
    simp at hb; subst hb
    obtain ⟨p, hp, rfl⟩ := List.mem_map.1 ha
    exact Ne.symm (sameNow_ne (hall p hp))
   ·obtain ⟨l', p1, p2⟩ := Entries.iff.1 h
    refine ⟨l' ++ [e1], p1.append_right _, by simp [p2.get.1], fun i e p he hp => ?_⟩
    by_cases hi : i < l'.length
    ·rw [List.getElem?_append_left hi] at he
     rw [List.getElem?_append_left (by rw [← p2.get.1]; exact hi)] at hp
     exact p2.get.2 i e p he hp
    ·have hil := (List.getElem?_eq_some_iff.1 he).1
     rw [List.length_append, List.length_singleton] at hil
     have hi2 : i = l'.length := by omega
     subst hi2
     rw [List.getElem?_append_right (by omega)] at he
     rw [p2.get.1, List.getElem?_append_right (by omega)] at hp
     simp at he hp
     subst he; subst hp
     exact ⟨hk, hd⟩
  ·obtain ⟨p, hp, hk, _⟩ := h.to (List.mem_of_getElem? he)
   rw [hk, hall p hp] at ht; cases ht
 ·have hk0 : p.1 = key := (sameNow_eq ht).symm
  have hl' := h
  obtain ⟨l', p1, p2, p3⟩ := hl'
  have hj0 : j0 < l'.length := by rw [p2]; exact (List.getElem?_eq_some_iff.1 hp).1
  have he' := List.getElem?_eq_getElem hj0
  obtain ⟨q1, q2⟩ := p3 j0 _ p he' hp
  rcases findNow_all (kind := kind) (key := key) 0 (h.strict hs) with ⟨hall, _⟩ | ⟨j, e, he, ht', hf⟩
  ·have := hall _ (p1.mem_iff.1 (List.mem_of_getElem? he'))
   rw [q1, ht] at this; cases this
  ·have hee : l'[j0] = e := key_one (h.nodup hn) (p1.mem_iff.1 (List.mem_of_getElem? he')) (List.mem_of_getElem? he) (by rw [q1, hk0, ← sameNow_eq ht'])
   rw [hee] at he'
   rw [Nat.zero_add] at hf
   refine .inr ⟨j, e.val, e, hf, he, ht', ?_, fun e1 hk hd => ⟨l'.set j0 e1, ?_, by simp [p2], fun i e2 p' h1 h2 => ?_⟩⟩
   ·have : (es.set j0 (key, x)).map (·.1) = es.map (·.1) := by
     rw [List.map_set]
     apply List.ext_getElem?
     intro i
     rw [List.getElem?_set]
     split
     ·rename_i hi
      subst hi
      rw [List.getElem?_map, hp]
      simp [hk0, (List.getElem?_eq_some_iff.1 hp).1]
     ·rfl
    unfold KeysNd
    rw [this]; exact hn
   ·obtain ⟨a1, a2⟩ := perm_set (a := e1) he'
    obtain ⟨b1, b2⟩ := perm_set (a := e1) he
    have c : (e :: l'.eraseIdx j0).Perm (e :: l.eraseIdx j) := a2.symm.trans (p1.trans b2)
    exact a1.trans ((List.Perm.cons e1 ((List.perm_cons e).1 c)).trans b1.symm)
   ·rw [List.getElem?_set] at h1 h2
    by_cases hi : j0 = i
    ·subst hi
     rw [if_pos rfl, if_pos hj0] at h1
     rw [if_pos rfl, if_pos (by rw [← p2]; exact hj0)] at h2
     simp at h1 h2
     subst h1; subst h2
     exact ⟨hk, hd⟩
    ·rw [if_neg hi] at h1 h2
     exact p3 i e2 p' h1 h2
theorem sameBits_of {kind : TypeDesc} {a b : Value} (h : Instr.sameNow kind a b = some true) : Instr.sameBits 10000 b a = true := by
 unfold Instr.sameNow at h
 split at h
 ·rename_i k x k' y
  split at h
  ·rename_i hk
   subst hk
   have : x = y := by simpa using h
   subst this
   simp [Instr.sameBits]
  ·cases h
 ·rename_i x y
  have : x = y := (MapKept.bytes_beq x y).1 (by simpa using h)
  subst this
  simp [Instr.sameBits, (MapKept.bytes_beq _ _).2 rfl]
 ·rename_i x y
  have : x = y := by simpa using h
  subst this
  simp [Instr.sameBits]
 ·cases h
theorem zeroX_spec {P : Program} {t : TypeId} {z : D} (h : zeroX P t = some z) : ∃ v, (∀ w, (zeroValue t).run P w = .ok v w) ∧ ∀ M, DRep M v z := by
 unfold zeroX at h
 split at h
 ·rename_i i hi
  split at h
  ·rename_i cs hz
   simp at h; subst h
   refine ⟨.agg cs, fun w => by simp only [zeroValue, typeInfo, program, Sem.run_bind, Sem.run, hi, hz, Result.andThen_ok, Sem.run_pure], fun M => .agg cs _ (by simp) fun k c x hc hx => ?_⟩
   rw [List.getElem?_map, Option.map_eq_some_iff] at hx
   obtain ⟨y, hy, rfl⟩ := hx
   have : cs[k]? = some y := by simpa using hy
   rw [hc] at this; cases this
   exact .v _
  ·rename_i v _ hz
   simp at h; subst h
   exact ⟨v, fun w => by simp only [zeroValue, typeInfo, program, Sem.run_bind, Sem.run, hi, hz, Result.andThen_ok, Sem.run_pure], fun M => .v v⟩
  ·cases h
 ·cases h
theorem argKind_slice {P : Program} {l : Array TypeId} (h : argKind P l.toList = 2) : ∃ t e, l[0]? = some t ∧ P.underlying t = some (.slice e) := by
 obtain ⟨l⟩ := l
 cases l with
 | nil => simp [argKind] at h
 | cons t r =>
  refine ⟨t, ?_⟩
  simp only [argKind] at h
  split at h <;> first | (simp at h; done) | (rename_i e he; exact ⟨e, rfl, he⟩)
theorem argKind_string {P : Program} {l : Array TypeId} (h : argKind P l.toList = 1) : ∃ t, l[0]? = some t ∧ P.underlying t = some .string := by
 obtain ⟨l⟩ := l
 cases l with
 | nil => simp [argKind] at h
 | cons t r =>
  refine ⟨t, ?_⟩
  simp only [argKind] at h
  split at h <;> first | (simp at h; done) | (rename_i he; exact ⟨rfl, he⟩)
theorem argKind_map {P : Program} {l : Array TypeId} (h : argKind P l.toList = 3) : ∃ t a b, l[0]? = some t ∧ P.underlying t = some (.map a b) := by
 obtain ⟨l⟩ := l
 cases l with
 | nil => simp [argKind] at h
 | cons t r =>
  refine ⟨t, ?_⟩
  simp only [argKind] at h
  split at h <;> first | (simp at h; done) | (rename_i a b he; exact ⟨a, b, rfl, he⟩)
theorem HReps.append {E : Env} {M : Mem} {vs us : Array Value} {l m : List H} (h : HReps E M vs l) (k : HReps E M us m) : HReps E M (vs ++ us) (l ++ m) := by
 refine ⟨by simp [h.1, k.1], fun i c x hc hx => ?_⟩
 by_cases hi : i < vs.size
 ·rw [Array.getElem?_append_left hi] at hc
  rw [List.getElem?_append_left (by rw [← h.1]; exact hi)] at hx
  exact h.2 i c x hc hx
 ·rw [Array.getElem?_append_right (by omega)] at hc
  rw [List.getElem?_append_right (by rw [← h.1]; omega), ← h.1] at hx
  exact k.2 _ c x hc hx
theorem Sim.args {C : Ctx} {E : Env} {M : Mem} {S : AState} {a : Act} {w : World} (hs : Sim C E M S a w) (l : Array Operand) : HReps E M (l.map a.eval) (l.toList.map (Go.Awp.ev S)) := by
 refine ⟨by simp, fun i c x hc hx => ?_⟩
 simp only [Array.getElem?_map, List.getElem?_map, Array.getElem?_toList] at hc hx
 cases hl : l[i]? with
 | none => rw [hl] at hc; cases hc
 | some y => rw [hl] at hc hx; simp at hc hx; subst hc; subst hx; exact hs.ev y
theorem map_two {l : Array Operand} {ρ : Operand → H} {x y : H} (h : l.toList.map ρ = [x, y]) : ∃ p q, l = #[p, q] ∧ ρ p = x ∧ ρ q = y := by
 obtain ⟨l⟩ := l
 match l, h with
 | [p, q], h => simp at h; exact ⟨p, q, rfl, h.1, h.2⟩
theorem map_one {l : Array Operand} {ρ : Operand → H} {x : H} (h : l.toList.map ρ = [x]) : ∃ p, l = #[p] ∧ ρ p = x := by
 obtain ⟨l⟩ := l
 match l, h with
 | [p], h => simp at h; exact ⟨p, rfl, h⟩
theorem newNames_mem {own : List (Nat × Own)} : ∀ {own' : List (Nat × Own)} {n : Nat} {o : Own}, gt own' n = some o → gt own n = none → n ∈ newNames own own'
 | [], n, o, h, _ => by simp [gt] at h
 | (m, x) :: r, n, o, h, h0 => by
  rw [gt_cons] at h
  simp only [newNames]
  by_cases hm : m = n
  ·subst hm; rw [h0]; exact List.mem_cons_self
  ·rw [if_neg hm] at h
   have ih := newNames_mem h h0
   split
   ·exact ih
   ·exact List.mem_cons_of_mem _ ih
theorem gt_map_some (own : List (Nat × Own)) (n : Nat) : gt (own.map fun p => (p.1, some p.2)) n = (gt own n).map some := by
 induction own with
 | nil => rfl
 | cons p r ih => obtain ⟨k, o⟩ := p; simp only [List.map_cons, gt_cons]; by_cases h : k = n <;> simp [h, ih]
theorem gt_map_none (own : List (Nat × Own)) (n : Nat) : gt (own.map fun p => (p.1, (none : Option Own))) n = (gt own n).map fun _ => none := by
 induction own with
 | nil => rfl
 | cons p r ih => obtain ⟨k, o⟩ := p; simp only [List.map_cons, gt_cons]; by_cases h : k = n <;> simp [h, ih]
theorem gt_app {α : Type} : ∀ (l m : List (Nat × α)) (n : Nat), gt (l ++ m) n = match gt l n with | some x => some x | none => gt m n
 | [], m, n => rfl
 | (k, x) :: r, m, n => by
  simp only [List.cons_append, gt_cons]
  by_cases h : k = n
  ·simp [h]
  ·rw [if_neg h, if_neg h]; exact gt_app r m n
section
variable {C : Ctx} {nm : Nat → Nat} {o : Oper} (hd : ∀ d, o.dst = some d → d < C.N)
include hd
theorem Sim.called {E E' : Env} {M M' : Mem} {S : AState} {a : Act} {w w' : World} {own own' : List (Nat × Own)} {v : Value} {r : H} (hs : Sim C E M S a w) (hsub : ∀ n o, gt own n = some o → S.own? n = some o)
  (hp : FnPost E M own w v r own' E' M' w') (henv : ∀ n, (gt own' n = none ∨ ∃ o, gt own n = some o) → E' n = E n) (hnew : ∀ d ∈ newNames own own', S.fresh d = true ∧ d < given) :
  Sim C E' M' (S.app o.dst (callEff r own own')) (a.put o.dst v) w' := by
 have hE : ∀ m, S.fresh m = false → E' m = E m := by
  intro m hm
  refine henv m ?_
  cases h1 : gt own' m with
  | none => exact .inl rfl
  | some o1 =>
   right
   cases h2 : gt own m with
   | none => have := (hnew m (newNames_mem h1 h2)).1; rw [hm] at this; cases this
   | some o2 => exact ⟨o2, rfl⟩
 have hEt : ∀ t x, gt S.tmps t = some x → ∀ k, H.has k x = true → E' k = E k := by
  intro t x hx k hk
  refine hE k ?_
  cases hf : S.fresh k with
  | false => rfl
  | true => rw [AState.fresh_tmp hf hx] at hk; cases hk
 have hEo : ∀ m o, S.own? m = some o → ∀ k, Own.has k o = true → E' k = E k := by
  intro m o ho k hk
  refine hE k ?_
  cases hf : S.fresh k with
  | false => rfl
  | true => rw [AState.fresh_cell hf ho] at hk; cases hk
 have hEown : ∀ m o, S.own? m = some o → E' m = E m := by
  intro m o ho
  refine hE m ?_
  cases hf : S.fresh m with
  | false => rfl
  | true => rw [AState.fresh_own hf] at ho; cases ho
 let S1 : AState := { S with own := own'.map (fun p => (p.1, some p.2)) ++ own.map (fun p => (p.1, none)) ++ S.own }
 have hold : ∀ m o, S1.own? m = some o → gt own' m = some o ∨ gt own' m = none ∧ gt own m = none ∧ S.own? m = some o := by
  intro m o ho
  simp only [S1, AState.own?, gt_app, gt_map_some, gt_map_none] at ho
  cases h1 : gt own' m with
  | some o1 => rw [h1] at ho; simp at ho; exact .inl (by rw [ho])
  | none =>
   rw [h1] at ho
   cases h2 : gt own m with
   | some o2 => rw [h2] at ho; simp at ho
   | none => rw [h2] at ho; exact .inr ⟨rfl, rfl, by simpa [AState.own?] using ho⟩
 have hext : ∀ m o b, gt own m = none → S.own? m = some o → o.foot w (E m) b → ¬ inExt E w own b := by
  rintro m o b hm ho hb ⟨n, o2, hn, hbn⟩
  have hne : m ≠ n := by intro e; subst e; rw [hm] at hn; cases hn
  exact hs.apart m n o o2 b hne ho (hsub n o2 hn) hb hbn
 have hMn : ∀ m o b, gt own m = none → S.own? m = some o → o.foot w (E m) b → ∀ k, M' b k = none := by
  intro m o b hm ho hb k
  cases hq : M' b k with
  | none => rfl
  | some u =>
   rcases hp.mnew b k u hq with q | q | q
   ·rw [((hs.own m o ho).block hb).2 k] at q; cases q
   ·exact (hext m o b hm ho hb q).elim
   ·have := hs.block_lt ho hb; omega
 have hsame : ∀ m o, gt own m = none → S.own? m = some o → ∀ b, o.foot w (E m) b → w'.heap[b]? = w.heap[b]? := fun m o h2 h3 b hb => hp.frame b (hs.block_lt h3 hb) (hext m o b h2 h3 hb)
 have hfoot : ∀ m o, gt own m = none → S.own? m = some o → ∀ b, o.foot w' (E m) b → o.foot w (E m) b := fun m o h2 h3 b hb => ((hs.own m o h3).foot_keep (hsame m o h2 h3) b).1 hb
 have hexthome : ∀ b, inExt E w own b → C.ext b ∨ C.w0.heap.size ≤ b := fun b ⟨n, o, hn, hb⟩ => hs.home n o b (hsub n o hn) hb
 have h1 : Sim C E' M' S1 a w' := by
  refine { size := hs.size, defers := hs.defers, tmps := ?_, mem := hp.mem, own := ?_, apart := ?_, home := ?_, m0 := Mem.le_trans hs.m0 hp.mle, mnew := ?_, frame := ?_, grows := Nat.le_trans hs.grows hp.grows, os := hp.os.trans hs.os, tape := hp.tape.trans hs.tape, output := hp.output.trans hs.output, env := fun n hn => (hp.env n hn).trans (hs.env n hn) }
  ·intro t x hx
   obtain ⟨u, hu, hr⟩ := hs.tmps t x hx
   exact ⟨u, hu, hr.mono hp.mle (hEt t x hx)⟩
  ·intro m o ho
   rcases hold m o ho with h | ⟨_, h2, h3⟩
   ·exact hp.owns.ok m o h
   ·exact (hs.own m o h3).keep (hEown m o h3) (hsame m o h2 h3) (hEo m o h3) hp.mle (fun b hb => hMn m o b h2 h3 hb)
  ·intro m m' o o' b hne ho ho' hb hb'
   rcases hold m o ho with h | ⟨_, h2, h3⟩ <;> rcases hold m' o' ho' with k | ⟨_, k2, k3⟩
   ·exact hp.owns.apart m m' o o' b hne h k hb hb'
   ·rw [hEown m' o' k3] at hb'
    replace hb' := hfoot m' o' k2 k3 b hb'
    rcases hp.home m o b h hb with q | q
    ·exact hext m' o' b k2 k3 hb' q
    ·have := hs.block_lt k3 hb'; omega
   ·rw [hEown m o h3] at hb
    replace hb := hfoot m o h2 h3 b hb
    rcases hp.home m' o' b k hb' with q | q
    ·exact hext m o b h2 h3 hb q
    ·have := hs.block_lt h3 hb; omega
   ·rw [hEown m o h3] at hb; rw [hEown m' o' k3] at hb'
    exact hs.apart m m' o o' b hne h3 k3 (hfoot m o h2 h3 b hb) (hfoot m' o' k2 k3 b hb')
  ·intro m o b ho hb
   rcases hold m o ho with h | ⟨_, h2, h3⟩
   ·rcases hp.home m o b h hb with q | q
    ·exact hexthome b q
    ·exact .inr (Nat.le_trans hs.grows q)
   ·rw [hEown m o h3] at hb
    exact hs.home m o b h3 (hfoot m o h2 h3 b hb)
  ·intro b k u hu
   rcases hp.mnew b k u hu with q | q | q
   ·exact hs.mnew b k u q
   ·exact .inr (hexthome b q)
   ·exact .inr (.inr (Nat.le_trans hs.grows q))
  ·intro k hk hke
   rw [hp.frame k (Nat.lt_of_lt_of_le hk hs.grows) fun he => ?_]
   ·exact hs.frame k hk hke
   ·rcases hexthome k he with q | q
    ·exact hke q
    ·omega
 exact h1.put o.dst hd hp.rep
theorem ok_callFn {c : Call} {f : Operand} (ho : o.op = .call c) (hc : c.callee = .value f) : OpOk C nm o := by
 intro E M S a w K Q k hs hv hK
 simp only [AVal, ho, hc] at hv
 have hf := hs.ev f
 split at hv
 ·rename_i fid l l' he
  rw [he] at hf
  obtain ⟨own, r, own', ⟨hcall, hfn⟩, hown, hnew, hk⟩ := hv
  generalize hq : a.eval f = q at hf
  cases hf with
  | fn fid first captured l l' h1 h2 h3 h4 =>
   have hargs : HReps E M (first ++ c.args.map a.eval ++ captured) (l ++ c.args.toList.map (Go.Awp.ev S) ++ l') :=
    HReps.append (HReps.append ⟨h1, h3⟩ (hs.args c.args)) ⟨h2, h4⟩
   have hsub : ∀ n o, gt own n = some o → S.own? n = some o := fun n o h => hown (n, o) (gt_mem h)
   have hC := hfn E M w _ (C.g0.mono hs.m0 fun b ⟨v, hv⟩ hb => hs.frame b hb fun hx => by rw [C.gx b hx 0] at hv; cases hv) hs.mem ⟨fun n o h => hs.own n o (hsub n o h), fun n m o o' b hne h h' => hs.apart n m o o' b hne (hsub n o h) (hsub m o' h')⟩ hargs
   have hex : (execOp a.eval o).run C.P w = .ok (.enter fid (first ++ c.args.map a.eval ++ captured)) w := by
    unfold callable at hcall
    split at hcall
    ·rename_i fn hfn'
     simp only [Bool.and_eq_true, bne_iff_ne, ne_eq] at hcall
     have hb : ¬ fn.body = none := by
      intro hbb
      rw [hbb] at hcall; simp at hcall
     simp [execOp, ho, resolve, hc, hq, Deferred.ofValue, invoke, callFunc, hfn', hcall.1, hb]
    ·cases hcall
   unfold Oper.wp
   rw [hex]
   refine hC.mono ?_
   rintro e w' ⟨v, E', M', rfl, hp, henv⟩
   exact hK _ _ _ _ _ hk (hs.called hd hsub hp henv hnew)
 ·exact hv.elim
omit hd in
theorem zeroX_int {P : Program} {e : TypeId} {k : IntKind} {n : Int} (h : zeroX P e = some (.v (.int k n))) : ∃ i, P.info? e = some i ∧ i.zero = some (.int k n) := by
 unfold zeroX at h
 split at h
 ·rename_i i hi
  split at h
  ·cases h
  ·rename_i v _ hv
   simp only [Option.some.injEq, D.v.injEq] at h
   subst h
   exact ⟨i, hi, hv⟩
  ·cases h
 ·cases h
omit hd in
theorem strCells_ints (s : ByteArray) : Lib.strCells s = (Bs.ints s).map (Value.int .u8) := by
 unfold Lib.strCells Bs.ints
 rw [List.map_map]; rfl
omit hd in
theorem ints_length (s : ByteArray) : (Bs.ints s).length = s.size := by
 unfold Bs.ints
 rw [List.length_map, Array.length_toList]; rfl
omit hd in
theorem run_loadBytes_ints {P : Program} (w : World) : ∀ (l : List Int) (a : Addr) (acc : ByteArray), (∀ (j : Nat) (x : Int), l[j]? = some x → w.cell? (a.add j) = some (.int .u8 x)) →
  (loadBytes a acc l.length).run P w = .ok (acc ++ Bs.bytes l) w
 | [], a, acc, _ => by
  simp only [List.length_nil, loadBytes, Sem.run_pure]
  congr 1
  apply ByteArray.ext; simp [Bs.bytes]
 | x :: l, a, acc, h => by
  have h0 : w.cell? a = some (.int .u8 x) := by
   have := h 0 x rfl
   simpa [Addr.add] using this
  have ih := run_loadBytes_ints (P := P) w l (a.add 1) (acc.push (UInt8.ofNat x.toNat)) (fun j y hy => by
   have := h (j + 1) y (by simpa using hy)
   have e : (a.add 1).add j = a.add (j + 1) := by
    unfold Addr.add
    by_cases hj : j = 0
    ·subst hj; simp
    ·simp [hj]; omega
   rw [e]; exact this)
  have hx : (x.toNat).toUInt8 = UInt8.ofNat x.toNat := rfl
  simp only [List.length_cons, loadBytes, Sem.run_bind, Go.run_load, h0, Result.andThen, hx]
  rw [ih]
  congr 1
  apply ByteArray.ext
  simp [Bs.bytes, ByteArray.push]
omit hd in
theorem run_unsafeString_ints {P : Program} {w : World} (pt it ty e : TypeId) (hp : P.underlying pt = some (.pointer e)) (hc : P.cellsOf e = 1) (g cells : Nat) (hsh : w.shape? g = some (e, cells)) (l : List Int) (h0 : l ≠ []) (hn : l.length ≤ cells) (h63 : l.length ≤ 9223372036854775807)
  (hcell : ∀ (j : Nat) (x : Int), l[j]? = some x → w.cell? ((⟨g, 0, none⟩ : Addr).add j) = some (.int .u8 x)) :
  (Builtin.unsafeString_ #[pt, it] ty #[.pointer (some ⟨g, 0, none⟩), .int .i64 l.length]).run P w = .ok (.string (Bs.bytes l)) (w.freeze ⟨g, 0, none⟩ l.length) := by
 have hl : l.length ≠ 0 := by simpa using h0
 have hlb := run_loadBytes_ints (P := P) w l ⟨g, 0, none⟩ .empty hcell
 have hlies := Lib.liesAt_bytes (P := P) hc (cells / P.cellsOf e) l.length (by rw [hc]; simpa using hn)
 have h63' : ¬ (9223372036854775807 : Int) < (l.length : Int) := by omega
 have hmax : IntKind.i64.max = 9223372036854775807 := rfl
 have hem : (ByteArray.empty : ByteArray) ++ Bs.bytes l = Bs.bytes l := by apply ByteArray.ext; simp
 rw [hem] at hlb
 have hva : (variablesAt ⟨g, 0, none⟩ e l.length).run P w = .ok true w := by
  simp [variablesAt, hsh, hlies]
 have hne : ((l.length : Int) = 0) = False := by simpa using h0
 have hneg : ¬ (l.length : Int) < 0 := by omega
 have hdef : Builtin.unsafeString_ #[pt, it] ty #[.pointer (some ⟨g, 0, none⟩), .int .i64 l.length] =
   (do
     let n ← asInt (.int .i64 l.length)
     if n < 0 then runtimePanic (.error "unsafe.String: len out of range")
     if n > IntKind.i64.max then unsupported (.unsafePointer "String: a length above the largest int")
     if n = 0 then pure (.string .empty)
     else if ← variablesAt ⟨g, 0, none⟩ (← elemOf pt) n.toNat then do
      let s ← loadBytes ⟨g, 0, none⟩ .empty n.toNat
      freeze ⟨g, 0, none⟩ n.toNat
      pure (.string s)
     else unsupported (.unsafePointer "String: not so many bytes at ptr")) := rfl
 rw [hdef]
 simp [asInt, asIntOf, hmax, h63', hneg, hl, variablesAt, hsh, elemOf, run_underlying hp, hlies, hlb]
omit hd in
theorem run_append_str_at {P : Program} {w : World} (t u ty e : TypeId) (i : TypeInfo) (ht : P.underlying t = some (.slice e)) (hu : P.underlying u = some .string) (hi : P.info? e = some i) (hz : i.zero = some (.int .u8 0))
  (hsize : i.size = 1) (hby : i.bytes = 1) (v : Value) (n : Nat) (xs : List Value) (hown : w.ownsRow 0 e 1 v n xs) (s : ByteArray) (hle : n + s.size ≤ 1000000000000) :
  ∃ v' w', (Builtin.append_ #[t, u] ty #[v, .string s]).run P w = .ok v' w' ∧ w'.ownsRow 0 e 1 v' (n + s.size) (xs ++ (Bs.ints s).map (Value.int .u8)) ∧ w.grownBy w' (blockOf v) ∧
   ∀ b, blockOf v' = some b → blockOf v = some b ∨ w.heap.size ≤ b := by
 have hM1 : (1000000000000 : Nat) ≤ maxLen := by decide
 have hb : blockOf v = v.ownBlock := by
  rcases hown.2 with ⟨rfl, _⟩ | ⟨g, cap, cur, rfl, _⟩ <;> rfl
 obtain ⟨v', w', e1, e2, e3, _⟩ := Lib.run_append_own_string (P := P) (w := w) 0 t u ty e i ht hu hi hz hsize hby v n xs hown s (by omega) (by omega) (Nat.zero_le _)
 refine ⟨v', w', e1, by rw [← strCells_ints]; exact e2, by rw [hb]; exact e3, fun b hbv => ?_⟩
 rcases hown.2 with ⟨rfl, rfl⟩ | ⟨g, cap, cur, rfl, hbg, hg, hnc, hcm, hcs, htake⟩
 ·obtain ⟨v2, w2, f1, f2, _⟩ := Lib.run_append_own_string (P := P) (w := w) w.heap.size t u ty e i ht hu hi hz hsize hby (.slice none 0 0) 0 [] (World.ownsRow_nil w _ e 1) s (by omega) (by omega) (Nat.le_refl _)
  rw [e1] at f1
  simp only [Result.ok.injEq] at f1
  obtain ⟨rfl, rfl⟩ := f1
  right
  rcases f2.2 with ⟨hn, _⟩ | ⟨g2, cap2, cur2, hv2, hb2, _⟩
  ·rw [hn] at hbv; simp [blockOf] at hbv
  ·rw [hv2] at hbv; simp [blockOf] at hbv; omega
 ·by_cases hroom : n + s.size ≤ cap
  ·have hcs' : cur.size = cap := by simpa using hcs
   have f1 := Lib.run_append_room_string (P := P) w t u ty e i ht hu hi hsize g n cap cur hg s hroom (by omega)
   rw [e1] at f1
   simp only [Result.ok.injEq] at f1
   obtain ⟨rfl, _⟩ := f1
   left; simpa [blockOf] using hbv
  ·have holds : ∀ j u, xs[j]? = some u → w.cell? ((⟨g, 0, none⟩ : Addr).add j) = some u := hown.cells (g := g) rfl
   have f1 := Lib.run_append_grow_string (P := P) w t u ty e i (.int .u8 0) ht hu hi hz ⟨g, 0, none⟩ n cap xs (by rw [hsize]; simpa using hown.1) holds s (by omega) (by omega) (by rw [hby]; exact growslice_fits (by omega) (by omega))
   rw [e1] at f1
   simp only [Result.ok.injEq] at f1
   obtain ⟨rfl, _⟩ := f1
   right; simp [blockOf] at hbv; omega
theorem ok_callBuiltin {c : Call} {b : Builtin} (ho : o.op = .call c) (hc : c.callee = .builtin b) : OpOk C nm o := by
 intro E M S a w K Q k hs hv hK
 simp only [AVal, ho, hc] at hv
 split at hv
 ·-- len
  rename_i x hargs
  obtain ⟨p, hp, rfl⟩ := map_one hargs
  have hx := hs.ev p
  split at hv
  ·rename_i sz rows he
   rw [he] at hx
   obtain ⟨hak, hv⟩ := hv
   obtain ⟨t, e, h1, h2⟩ := argKind_slice hak
   have hlen : ∃ ad cap, a.eval p = .slice ad rows.length cap := by
    rcases hx.toD.sl_cells with ⟨h, h'⟩ | ⟨ad, cap, h, h'⟩ | ⟨b, off, cap, h, _⟩
    ·exact ⟨none, 0, by rw [h, h']; rfl⟩
    ·exact ⟨some ad, cap, by rw [h, h']; rfl⟩
    ·exact ⟨_, _, h⟩
   obtain ⟨ad, cap, hq⟩ := hlen
   refine wp_value (v := .int .i64 rows.length) (w' := w) ?_ (hK _ _ _ _ _ hv.2 (hs.app_val hd rfl (.d (.v _))))
   simp [execOp, ho, resolve, hc, hp, hq, invoke, builtin, Builtin.len_, h1, run_underlying h2, goInt]
  ·rename_i m n he
   rw [he] at hx
   obtain ⟨hak, hv⟩ := hv
   obtain ⟨t, e, h1, h2⟩ := argKind_slice hak
   generalize hq : a.eval p = q at hx
   cases hx with
   | vh m n l c' ad hE hl =>
    refine wp_value (v := .int .i64 n) (w' := w) ?_ (hK _ _ _ _ _ hv.2 (hs.app_val hd rfl (.d (.v _))))
    simp [execOp, ho, resolve, hc, hp, hq, invoke, builtin, Builtin.len_, h1, run_underlying h2, goInt]
  ·rename_i n he
   rw [he] at hx
   split at hv
   ·rename_i es hown
    obtain ⟨hak, hv⟩ := hv
    obtain ⟨t, ta, tb, h1, h2⟩ := argKind_map hak
    generalize hq : a.eval p = q at hx
    cases hx with
    | mp n b hE =>
     obtain ⟨b', es', clock, g1, g2, _, g3, _⟩ := hs.own n _ hown
     rw [hE] at g1; cases g1
     have g3 : es'.size = es.length := by simpa using g3.len
     refine wp_value (v := .int .i64 es.length) (w' := w) ?_ (hK _ _ _ _ _ hv.2 (hs.app_val hd rfl (.d (.v _))))
     simp [execOp, ho, resolve, hc, hp, hq, invoke, builtin, Builtin.len_, h1, run_underlying h2, goInt, MapKept.run_getObj_map g2, g3]
   ·exact hv.elim
  ·rename_i s he
   rw [he] at hx; have hx := hx.dv
   obtain ⟨hak, hv⟩ := hv
   obtain ⟨t, h1, h2⟩ := argKind_string hak
   refine wp_value (v := .int .i64 s.size) (w' := w) ?_ (hK _ _ _ _ _ hv.2 (hs.app_val hd rfl (.d (.v _))))
   simp [execOp, ho, resolve, hc, hp, hx, invoke, builtin, Builtin.len_, h1, run_underlying h2, goInt]
  ·exact hv.elim
 ·-- min
  rename_i x y hargs
  obtain ⟨p, q, hp, rfl, rfl⟩ := map_two hargs
  have hx := hs.ev p
  have hy := hs.ev q
  split at hv
  ·rename_i kx m ky n hex hey
   rw [hex] at hx; rw [hey] at hy
   have hx := hx.dv; have hy := hy.dv
   have hmm : min m n = if n < m then n else m := by omega
   rw [hmm] at hv
   refine wp_value (v := .int kx (if n < m then n else m)) (w' := w) ?_ (hK _ _ _ _ _ hv.2 (hs.app_val hd rfl (.d (.v _))))
   simp [execOp, ho, resolve, hc, hp, hx, hy, invoke, builtin, Builtin.min_, Builtin.min2]
  ·exact hv.elim
 ·-- max
  rename_i x y hargs
  obtain ⟨p, q, hp, rfl, rfl⟩ := map_two hargs
  have hx := hs.ev p
  have hy := hs.ev q
  split at hv
  ·rename_i kx m ky n hex hey
   rw [hex] at hx; rw [hey] at hy
   have hx := hx.dv; have hy := hy.dv
   have hmm : max m n = if n > m then n else m := by omega
   rw [hmm] at hv
   refine wp_value (v := .int kx (if n > m then n else m)) (w' := w) ?_ (hK _ _ _ _ _ hv.2 (hs.app_val hd rfl (.d (.v _))))
   simp [execOp, ho, resolve, hc, hp, hx, hy, invoke, builtin, Builtin.max_, Builtin.max2]
  ·exact hv.elim
 ·-- append
  rename_i x y hargs
  obtain ⟨p, q, hp, rfl, rfl⟩ := map_two hargs
  have hx := hs.ev p
  have hy := hs.ev q
  split at hv
  ·exact hv.elim
  rename_i d hdst
  split at hv
  ·rename_i t t' hty
   have hty' : c.argTypes = #[t, t'] := by
    rw [← Array.toList_inj]; simpa using hty
   split at hv
   ·rename_i e sz bytes hel
    obtain ⟨ii, z, hu, hii, hz, hzs, his, hib, hpos⟩ := elemTy_spec hel
    split at hv
    ·rename_i sz' news hey
     rw [hey] at hy
     have src : ∀ (n : Nat), sz = sz' → news.all (fun r => r.all D.one) = true → (∀ r ∈ news, r.length = sz) ∧ ∃ cs : List Value, cs.length = news.length * sz ∧
       ((a.eval q = .slice none 0 0 ∧ news.length = 0) ∨ ∃ ad cc, a.eval q = .slice (some ad) news.length cc ∧ ∀ (j : Nat) u, cs[j]? = some u → w.cell? (ad.add j) = some u) ∧
       (∀ u ∈ cs, u.oneCell' = true) ∧ ∀ (i j : Nat) (r : List D) (c : Value) (x : D), news[i]? = some r → r[j]? = some x → cs[i * sz + j]? = some c → DRep M c x := by
      intro _ hsz hone
      subst hsz
      rcases hy.toD.sl_cells with ⟨h, h'⟩ | ⟨ad, cap, h, h'⟩ | ⟨b, off, cap, h, hcap, cs, hl, hm, hrl, hc'⟩
      ·subst h'
       exact ⟨by simp, [], by simp, .inl ⟨h, rfl⟩, by simp, by simp⟩
      ·subst h'
       exact ⟨by simp, [], by simp, .inr ⟨ad, cap, h, by simp⟩, by simp, by simp⟩
      ·refine ⟨hrl, cs, hl, .inr ⟨_, _, h, fun j u hu => by rw [addr_add]; exact hs.mem _ _ _ (hm j u hu)⟩, fun u hu => ?_, hc'⟩
       obtain ⟨kk, hkk⟩ := List.mem_iff_getElem?.1 hu
       have hlt : kk < news.length * sz := by rw [← hl]; exact (List.getElem?_eq_some_iff.1 hkk).1
       have hi : kk / sz < news.length := Nat.div_lt_of_lt_mul (by rw [Nat.mul_comm]; exact hlt)
       have hj : kk % sz < (news[kk / sz]).length := by rw [hrl _ (List.getElem_mem hi)]; exact Nat.mod_lt _ hpos
       have hdm : kk / sz * sz + kk % sz = kk := by rw [Nat.mul_comm]; exact Nat.div_add_mod kk sz
       have hrep := hc' (kk / sz) (kk % sz) _ u _ (List.getElem?_eq_getElem hi) (List.getElem?_eq_getElem hj) (by rw [hdm]; exact hkk)
       have ho1 : ((news[kk / sz])[kk % sz]).one = true := by
        rw [List.all_eq_true] at hone
        have := hone _ (List.getElem_mem hi)
        rw [List.all_eq_true] at this
        exact this _ (List.getElem_mem hj)
       exact (HRep.d (E := E) hrep).one ho1
     have glue : ∀ (rows : List (List D)) (xs cs : List Value), xs.length = rows.length * sz → (∀ r ∈ rows, r.length = sz) →
       (∀ (i j : Nat) (r : List D) (c : Value) (x : D), rows[i]? = some r → r[j]? = some x → xs[i * sz + j]? = some c → DRep M c x) →
       (∀ (i j : Nat) (r : List D) (c : Value) (x : D), news[i]? = some r → r[j]? = some x → cs[i * sz + j]? = some c → DRep M c x) → (∀ r ∈ news, r.length = sz) →
       ∀ (i j : Nat) (r : List D) (c : Value) (x : D), (rows ++ news)[i]? = some r → r[j]? = some x → (xs ++ cs)[i * sz + j]? = some c → DRep M c x := by
      intro rows xs cs hxl hrl h1 h2 hnl i j r c x hr hx hcc
      by_cases hi : i < rows.length
      ·rw [List.getElem?_append_left hi] at hr
       have hj : j < sz := by
        have := hrl r (List.mem_of_getElem? hr)
        have := (List.getElem?_eq_some_iff.1 hx).1; omega
       have hmul : (i + 1) * sz ≤ rows.length * sz := Nat.mul_le_mul_right _ hi
       rw [Nat.succ_mul] at hmul
       rw [List.getElem?_append_left (by omega)] at hcc
       exact h1 i j r c x hr hx hcc
      ·rw [List.getElem?_append_right (by omega)] at hr
       have hmul : rows.length * sz ≤ i * sz := Nat.mul_le_mul_right _ (by omega)
       rw [List.getElem?_append_right (by omega), hxl] at hcc
       have : i * sz + j - rows.length * sz = (i - rows.length) * sz + j := by rw [Nat.sub_mul]; omega
       rw [this] at hcc
       exact h2 _ j r c x hr hx hcc
     have exec : ∀ v w', (Builtin.append_ #[t, t] o.type #[a.eval p, a.eval q]).run C.P w = .ok v w' → t = t' → (execOp a.eval o).run C.P w = .ok (.value v) w' := by
      intro v w' h htt
      subst htt
      simp [execOp, ho, resolve, hc, hp, invoke, builtin, hty', h]
     split at hv
     ·rename_i n len hex
      rw [hex] at hx
      split at hv
      ·rename_i e' s' rows hcn
       obtain ⟨⟨htt, he, hss, hsz', hlen, hone, hby, hle⟩, hnew, hk⟩ := hv
       subst he; subst hss; subst hlen
       obtain ⟨hnl, cs, hcl, hsrc, hc1, hc2⟩ := src 0 hsz' hone
       have hn := hnew (nm d) (by simp)
       generalize hq : a.eval p = pv at hx
       cases hx with
       | vh n len l cc ad hE hl =>
        obtain ⟨xs, ho1, ho2, ho3, ho4⟩ := hs.own n _ hcn
        have hll : l = rows.length := by
         rcases ho1.2 with ⟨hn', hz'⟩ | ⟨g, cap, cur, hv', _⟩
         ·rw [hE] at hn'; simp at hn'; omega
         ·rw [hE] at hv'; simp at hv'; exact hv'.2.1
        subst hll
        rw [hE] at ho1
        obtain ⟨v', w', r1, r2, r3, r4⟩ := run_append_at (P := C.P) (w := w) t o.type e ii z sz bytes hu hii hz his hib hzs hpos _ rows.length xs ho1 (a.eval q) cs news.length hcl hsrc hc1 (by omega) hby
        refine wp_value (exec v' w' (by rw [hq]; exact r1) htt) ?_
        have hlen' : ∃ ad' cc', v' = .slice ad' (rows.length + news.length) cc' := by
         rcases r2.2 with ⟨h, h'⟩ | ⟨g, cap, cur, h, _⟩
         ·exact ⟨none, 0, by rw [h, h']⟩
         ·exact ⟨_, _, h⟩
        obtain ⟨ad', cc', hv'⟩ := hlen'
        have hmv := hs.own_step (E' := fun m => if m = nm d then v' else E m) (n := n) (d := nm d) (o' := .vec e sz (rows ++ news)) hcn (w' := w') (by rw [hE]; exact r3) (fun m hm => by simp [hm]) (.inr hn)
         (fun b hb => by simp at hb; rw [hE]; exact r4 b hb)
         (fun b hb => by
           simp at hb
           rcases r2.2 with ⟨h, _⟩ | ⟨g, cap, cur, h, _, hg, _⟩
           ·rw [h] at hb; simp [blockOf] at hb
           ·rw [h] at hb; simp [blockOf] at hb; subst hb; exact (Array.getElem?_eq_some_iff.1 hg).1)
         ⟨xs ++ cs, by simpa using r2, fun r hr => by
          rcases List.mem_append.1 hr with h | h
          ·exact ho2 r h
          ·exact hnl r h, glue rows xs cs ho1.1 ho2 ho3 hc2 hnl, fun b hb k => by
          simp at hb
          rcases r4 b hb with q | q
          ·exact ho4 b (by rw [hE]; exact q) k
          ·cases hm : M b k with
           | none => rfl
           | some u => have := hs.cell_lt hm; omega⟩
        have hrep : HRep (fun m => if m = nm d then v' else E m) M v' (.vh (nm d) (rows.length + news.length)) := by
         rw [hv']; exact HRep.vh _ _ (rows.length + news.length) cc' ad' (by simp) (Nat.le_refl _)
        exact hK _ _ _ _ _ hk (hmv.put o.dst hd hrep)
      ·exact hv.elim
     ·rename_i hex
      rw [hex] at hx; have hx := hx.dv
      obtain ⟨⟨htt, hsz', hone, hby, hle⟩, hnew, hk⟩ := hv
      obtain ⟨hnl, cs, hcl, hsrc, hc1, hc2⟩ := src 0 hsz' hone
      have hn := hnew (nm d) (by simp)
      obtain ⟨v', w', r1, r2, r3, r4⟩ := run_append_at (P := C.P) (w := w) t o.type e ii z sz bytes hu hii hz his hib hzs hpos (.slice none 0 0) 0 [] (World.ownsRow_nil w 0 e sz) (a.eval q) cs news.length hcl hsrc hc1 (by omega) (by simpa using hby)
      refine wp_value (exec v' w' (by rw [hx]; exact r1) htt) ?_
      have hlen' : ∃ ad' cc', v' = .slice ad' news.length cc' := by
       rcases r2.2 with ⟨h, h'⟩ | ⟨g, cap, cur, h, _⟩
       ·exact ⟨none, 0, by rw [h]; simp at h'; rw [h']; rfl⟩
       ·exact ⟨_, _, by simpa using h⟩
      obtain ⟨ad', cc', hv'⟩ := hlen'
      have r4' : ∀ b, blockOf v' = some b → w.heap.size ≤ b := fun b hb => by
       rcases r4 b hb with q | q
       ·simp [blockOf] at q
       ·exact q
      have hmv := hs.own_new (E' := fun m => if m = nm d then v' else E m) (d := nm d) (o' := .vec e sz news) (w' := w') r3 (fun m hm => by simp [hm]) hn.1 hn.2 (fun b hb => r4' b (by simpa [Own.foot] using hb))
       ⟨cs, by simpa using r2, hnl, hc2, fun b hb k => by
         have := r4' b (by simpa using hb)
         cases hm : M b k with
         | none => rfl
         | some u => have := hs.cell_lt hm; omega⟩
      have hrep : HRep (fun m => if m = nm d then v' else E m) M v' (.vh (nm d) news.length) := by
       rw [hv']; exact HRep.vh _ _ news.length cc' ad' (by simp) (Nat.le_refl _)
      exact hK _ _ _ _ _ hk (hmv.put o.dst hd hrep)
     ·exact hv.elim
    ·-- a text behind bytes
     rename_i s hey
     rw [hey] at hy; have hy := hy.dv
     have exec : ∀ v w', (Builtin.append_ #[t, t'] o.type #[a.eval p, a.eval q]).run C.P w = .ok v w' → (execOp a.eval o).run C.P w = .ok (.value v) w' := by
      intro v w' h
      simp [execOp, ho, resolve, hc, hp, invoke, builtin, hty', h]
     have rows1 : ∀ (l : List Int) (i j : Nat) (r : List D) (c : Value) (x : D), (l.map (row1 .u8))[i]? = some r → r[j]? = some x → (l.map (Value.int .u8))[i * 1 + j]? = some c → DRep M c x := by
      intro l i j r c x hr hx hc
      rw [List.getElem?_map, Option.map_eq_some_iff] at hr
      obtain ⟨n, hn', rfl⟩ := hr
      cases j with
      | zero =>
       simp only [row1, List.getElem?_cons_zero, Option.some.injEq] at hx
       subst hx
       simp only [Nat.mul_one, Nat.add_zero, List.getElem?_map, hn', Option.map_some, Option.some.injEq] at hc
       subst hc; exact .v _
      | succ j => simp [row1] at hx
     have hM1 : (1000000000000 : Nat) ≤ maxLen := by decide
     split at hv
     ·rename_i n len hex
      rw [hex] at hx
      split at hv
      ·rename_i e' s' rows hcn
       obtain ⟨⟨hus, hzx, rfl, rfl, rfl, rfl, rfl, hle⟩, hnew, hk⟩ := hv
       obtain ⟨i2, hi2, hz2⟩ := zeroX_int hzx
       rw [hii] at hi2; cases hi2
       have hn := hnew (nm d) (by simp)
       generalize hq : a.eval p = pv at hx
       cases hx with
       | vh n len l cc ad hE hl =>
        obtain ⟨xs, ho1, ho2, ho3, ho4⟩ := hs.own n _ hcn
        have hll : l = rows.length := by
         rcases ho1.2 with ⟨hn', hz'⟩ | ⟨g, cap, cur, hv', _⟩
         ·rw [hE] at hn'; simp at hn'; omega
         ·rw [hE] at hv'; simp at hv'; exact hv'.2.1
        subst hll
        rw [hE] at ho1
        obtain ⟨v', w', r1, r2, r3, r4⟩ := run_append_str_at (P := C.P) (w := w) t t' o.type e ii hu hus hii hz2 his hib _ rows.length xs ho1 s hle
        refine wp_value (exec v' w' (by rw [hq, hy]; exact r1)) ?_
        have hlen' : ∃ ad' cc', v' = .slice ad' (rows.length + s.size) cc' := by
         rcases r2.2 with ⟨h, h'⟩ | ⟨g, cap, cur, h, _⟩
         ·exact ⟨none, 0, by rw [h, h']⟩
         ·exact ⟨_, _, h⟩
        obtain ⟨ad', cc', hv'⟩ := hlen'
        have hbl : ∀ b, blockOf v' = some b → blockOf (E n) = some b ∨ w.heap.size ≤ b := fun b hb => by
         rw [hE]; exact r4 b hb
        have hmv := hs.own_step (E' := fun m => if m = nm d then v' else E m) (n := n) (d := nm d) (o' := .vec e 1 (rows ++ (Bs.ints s).map (row1 .u8))) hcn (w' := w') (by rw [hE]; exact r3) (fun m hm => by simp [hm]) (.inr hn)
         (fun b hb => by simp at hb; exact hbl b hb)
         (fun b hb => by
           simp at hb
           rcases r2.2 with ⟨h, _⟩ | ⟨g, cap, cur, h, _, hg, _⟩
           ·rw [h] at hb; simp [blockOf] at hb
           ·rw [h] at hb; simp [blockOf] at hb; subst hb; exact (Array.getElem?_eq_some_iff.1 hg).1)
         ⟨xs ++ (Bs.ints s).map (Value.int .u8), by simpa [ints_length] using r2, fun r hr => by
          rcases List.mem_append.1 hr with h | h
          ·exact ho2 r h
          ·obtain ⟨n, _, rfl⟩ := List.mem_map.1 h; rfl, fun i j r c x hr hx hcc => by
          have hxl : xs.length = rows.length := by simpa using ho1.1
          by_cases hi : i < rows.length
          ·rw [List.getElem?_append_left hi] at hr
           have hj : j < 1 := by
            have := ho2 r (List.mem_of_getElem? hr)
            have := (List.getElem?_eq_some_iff.1 hx).1; omega
           rw [List.getElem?_append_left (by omega)] at hcc
           exact ho3 i j r c x hr hx hcc
          ·rw [List.getElem?_append_right (by omega)] at hr
           rw [List.getElem?_append_right (by omega), hxl] at hcc
           have : i * 1 + j - rows.length = (i - rows.length) * 1 + j := by omega
           rw [this] at hcc
           exact rows1 _ _ j r c x hr hx hcc, fun b hb k => by
          simp at hb
          rcases hbl b hb with q | q
          ·exact ho4 b q k
          ·cases hm : M b k with
           | none => rfl
           | some u => have := hs.cell_lt hm; omega⟩
        have hrep : HRep (fun m => if m = nm d then v' else E m) M v' (.vh (nm d) (rows.length + (Bs.ints s).length)) := by
         rw [hv', ints_length]; exact HRep.vh _ _ (rows.length + s.size) cc' ad' (by simp) (Nat.le_refl _)
        exact hK _ _ _ _ _ hk (hmv.put o.dst hd hrep)
      ·exact hv.elim
     ·rename_i hex
      rw [hex] at hx; have hx := hx.dv
      obtain ⟨⟨hus, hzx, rfl, rfl, hle⟩, hnew, hk⟩ := hv
      obtain ⟨i2, hi2, hz2⟩ := zeroX_int hzx
      rw [hii] at hi2; cases hi2
      have hn := hnew (nm d) (by simp)
      obtain ⟨v', w', r1, r2, r3, r4⟩ := run_append_str_at (P := C.P) (w := w) t t' o.type e ii hu hus hii hz2 his hib (.slice none 0 0) 0 [] (World.ownsRow_nil w 0 e 1) s (by omega)
      refine wp_value (exec v' w' (by rw [hx, hy]; exact r1)) ?_
      have hlen' : ∃ ad' cc', v' = .slice ad' s.size cc' := by
       rcases r2.2 with ⟨h, h'⟩ | ⟨g, cap, cur, h, _⟩
       ·exact ⟨none, 0, by rw [h]; have h0 : s.size = 0 := (by omega); rw [h0]⟩
       ·exact ⟨_, _, by simpa using h⟩
      obtain ⟨ad', cc', hv'⟩ := hlen'
      have r4' : ∀ b, blockOf v' = some b → w.heap.size ≤ b := fun b hb => by
       rcases r4 b hb with q | q
       ·simp [blockOf] at q
       ·exact q
      have hmv := hs.own_new (E' := fun m => if m = nm d then v' else E m) (d := nm d) (o' := .vec e 1 ((Bs.ints s).map (row1 .u8))) (w' := w') r3 (fun m hm => by simp [hm]) hn.1 hn.2 (fun b hb => r4' b (by simpa [Own.foot] using hb))
       ⟨(Bs.ints s).map (Value.int .u8), by simpa [ints_length] using r2, fun r hr => by
         obtain ⟨n, _, rfl⟩ := List.mem_map.1 hr; rfl, rows1 _, fun b hb k => by
         have := r4' b (by simpa using hb)
         cases hm : M b k with
         | none => rfl
         | some u => have := hs.cell_lt hm; omega⟩
      have hrep : HRep (fun m => if m = nm d then v' else E m) M v' (.vh (nm d) (Bs.ints s).length) := by
       rw [hv', ints_length]; exact HRep.vh _ _ s.size cc' ad' (by simp) (Nat.le_refl _)
      exact hK _ _ _ _ _ hk (hmv.put o.dst hd hrep)
     ·exact hv.elim
    ·exact hv.elim
   ·exact hv.elim
  ·exact hv.elim
 ·-- the address of a slice's elements
  rename_i x hargs
  obtain ⟨p, hp, rfl⟩ := map_one hargs
  have hx := hs.ev p
  split at hv
  ·rename_i n len he
   rw [he] at hx
   split at hv
   ·rename_i e z rows hown
    obtain ⟨hip, _, hk⟩ := hv
    generalize hq : a.eval p = q at hx
    cases hx with
    | vh n len l cc ad hE hl =>
     obtain ⟨xs, ho1, _⟩ := hs.own n _ hown
     rw [hE] at ho1
     have exec : ∀ v w', (Builtin.unsafeSliceData_ c.argTypes o.type #[a.eval p]).run C.P w = .ok v w' → (execOp a.eval o).run C.P w = .ok (.value v) w' := by
      intro v w' h
      simp [execOp, ho, resolve, hc, hp, invoke, builtin, h]
     rcases ho1.2 with ⟨hn', hz'⟩ | ⟨g, cap, cur, hv', _, hg, hnc, hcm, hcs, _⟩
     ·simp only [Value.slice.injEq] at hn'
      obtain ⟨rfl, rfl, rfl⟩ := hn'
      refine wp_value (exec _ w (by rw [hq]; exact Lib.run_unsafeSliceData_nil _ _ _ _ _)) (hK _ _ _ _ _ hk (hs.app_val hd rfl (.sd n none fun a l c he' _ => ?_)))
      rw [hE] at he'; simp only [Value.slice.injEq] at he'; exact he'.1
     ·simp only [Value.slice.injEq] at hv'
      obtain ⟨rfl, rfl, rfl⟩ := hv'
      by_cases hc0 : cc = 0
      ·subst hc0
       unfold isPtr at hip
       split at hip
       ·rename_i e' he'
        have hsh : w.shape? g = some (e, cur.size) := by simp [World.shape?, hg]
        refine wp_value (exec _ _ (by rw [hq]; exact Lib.run_unsafeSliceData_zero _ _ _ e' he' _ _ _ hsh)) ?_
        have h1 := hs.ro_new (M' := M) (World.grownBy_alloc w (.view ⟨g, 0, none⟩ e') none) (Mem.le_refl M) (fun b o v h => .inl h) (fun b o v h hb => by have := hs.cell_lt h; omega)
        refine hK _ _ _ _ _ hk (h1.app_val hd rfl (.sd n _ fun a l c he' hl0 => ?_))
        rw [hE] at he'; simp only [Value.slice.injEq] at he'; omega
       ·cases hip
      ·refine wp_value (exec _ w (by rw [hq]; exact Lib.run_unsafeSliceData_row _ _ _ _ _ _ hc0)) (hK _ _ _ _ _ hk (hs.app_val hd rfl (.sd n _ fun a l c he' _ => ?_)))
       rw [hE] at he'; simp only [Value.slice.injEq] at he'; exact he'.1
   ·exact hv.elim
  ·exact hv.elim
 ·-- the text of bytes that are owned
  rename_i x y hargs
  obtain ⟨p, q, hp, rfl, rfl⟩ := map_two hargs
  have hx := hs.ev p
  have hy := hs.ev q
  split at hv
  ·rename_i n ki l hex hey
   rw [hex] at hx; rw [hey] at hy
   have hy := hy.dv
   split at hv
   ·rename_i e z rows hown
    split at hv
    ·rename_i ns pt it hns hty
     obtain ⟨⟨hpt, hce, rfl, rfl, rfl, hle⟩, _, hk⟩ := hv
     have hrows := intsD_spec hns
     subst hrows
     have hty' : c.argTypes = #[pt, it] := by rw [← Array.toList_inj]; simpa using hty
     have exec : ∀ v w', (Builtin.unsafeString_ #[pt, it] o.type #[a.eval p, a.eval q]).run C.P w = .ok v w' → (execOp a.eval o).run C.P w = .ok (.value v) w' := by
      intro v w' h
      simp [execOp, ho, resolve, hc, hp, invoke, builtin, hty', h]
     generalize hq : a.eval p = pv at hx
     cases hx with
     | sd n pp hsd =>
      obtain ⟨xs, ho1, ho2, ho3, ho4⟩ := hs.own n _ hown
      have fin : ∀ w', w.grownBy w' (blockOf (E n)) → (Builtin.unsafeString_ #[pt, it] o.type #[a.eval p, a.eval q]).run C.P w = .ok (.string (Bs.bytes ns)) w' → o.wp C.P a w K Q := by
       intro w' hg hr
       have h1 := (hs.own_drop hown hg).put o.dst hd (x := .d (.v (.string (Bs.bytes ns)))) (.d (.v _))
       exact wp_value (exec _ _ hr) (hK _ _ _ _ _ hk h1)
      by_cases h0 : ns = []
      ·subst h0
       refine fin w ⟨rfl, rfl, rfl, Nat.le_refl _, fun _ _ _ => rfl⟩ ?_
       rw [hq, hy]
       exact Lib.run_unsafeString_none w pt it o.type pp
      ·rcases ho1.2 with ⟨hn', hz'⟩ | ⟨g, cap, cur, hv', _, hg, hnc, hcm, hcs, htake⟩
       ·exact (h0 (by simpa using hz')).elim
       ·have hpp := hsd _ _ _ hv' (by simpa using h0)
        subst hpp
        have hsh : w.shape? g = some (e, cur.size) := by simp [World.shape?, hg]
        simp only [List.length_map] at hnc htake hv'
        refine fin (w.freeze ⟨g, 0, none⟩ ns.length) ?_ ?_
        ·rw [hv']
         refine ⟨?_, ?_, ?_, ?_, fun k hk hne => ?_⟩
         ·unfold World.freeze; split <;> rfl
         ·unfold World.freeze; split <;> rfl
         ·unfold World.freeze; split <;> rfl
         ·unfold World.freeze; split <;> simp
         ·unfold World.freeze
          split
          ·rfl
          ·have hgk : ¬ g = k := fun e => hne (by simp [blockOf, e])
           simp [Array.getElem?_modify, hgk]
        ·rw [hq, hy]
         simp only [List.length_map]
         refine run_unsafeString_ints pt it o.type e hpt hce g cur.size hsh ns h0 (by omega) (by simp at hle; omega) fun j x hj => ?_
         rw [addr_add, Nat.zero_add, cell_of_row w g j cur e (0, 0) hg]
         have hjl : j < ns.length := (List.getElem?_eq_some_iff.1 hj).1
         have hxl : xs.length = ns.length := by simpa using ho1.1
         have hxj : xs[j]? = some xs[j] := List.getElem?_eq_getElem (by omega)
         have hd := ho3 j 0 (row1 .u8 x) xs[j] (.v (.int .u8 x)) (by rw [List.getElem?_map, hj]; rfl) rfl (by simp)
         have hxe : xs[j] = .int .u8 x := by generalize xs[j] = u at hd; cases hd; rfl
         rw [hxe, ← htake, List.getElem?_take] at hxj
         split at hxj
         ·simpa using hxj
         ·omega
    ·exact hv.elim
   ·exact hv.elim
  ·exact hv.elim
 ·exact hv.elim
theorem ok_makeSlice {t : TypeId} {l c : Operand} (ho : o.op = .makeSlice t l c) : OpOk C nm o := by
 intro E M S a w K Q k hs hv hK
 simp only [AVal, ho] at hv
 split at hv
 ·rename_i e sz by_ d ht hdst
  obtain ⟨ii, z0, hu, hii, hz, hzs, his, hib, hpos⟩ := elemTy_spec ht
  split at hv
  ·rename_i z kl n kc m hzd hl hc
   obtain ⟨⟨hnm, hn0, hm0, hm1, hb⟩, hnw, hk⟩ := hv
   have hn := hnw (nm d) (by simp)
   have hz' : z = z0.cells.toList := by
    unfold zeroD at hzd
    rw [hii] at hzd
    simp only [hz] at hzd
    simpa using hzd.symm
   subst hz'
   have el : a.eval l = .int kl n := by have := hs.ev l; rw [hl] at this; exact this.dv
   have ec : a.eval c = .int kc m := by have := hs.ev c; rw [hc] at this; exact this.dv
   obtain ⟨N, rfl⟩ : ∃ N : Nat, m = N := ⟨m.toNat, by omega⟩
   have hbytes : ii.bytes * N ≤ 281474976710656 := by
    rw [hib]
    have h1 : by_ * N ≤ 32768 * 4294967296 := Nat.mul_le_mul hb (by omega)
    omega
   have hmx : N ≤ maxLen := by
    have : (4294967296 : Nat) ≤ maxLen := by decide
    omega
   have hsz : z0.cells.toList.length = sz := by simpa using hzs
   have hrun : ∃ (w' : World) (xs : List Value), (execOp a.eval o).run C.P w = .ok (.value (.slice (some ⟨w.heap.size, 0, none⟩) n.toNat N)) w' ∧ w'.ownsRow 0 e sz (.slice (some ⟨w.heap.size, 0, none⟩) n.toNat N) n.toNat xs ∧ w.grownBy w' none ∧
     ∀ (i j : Nat) (c : Value) (x : Value), i < n.toNat → z0.cells.toList[j]? = some x → xs[i * sz + j]? = some c → c = x := by
    rcases hnm with rfl | rfl
    ·obtain ⟨w', r1, r2, r3⟩ := run_make_full (P := C.P) (w := w) 0 t e ii z0 sz hu hii hz his kl kc N hbytes hmx (Nat.zero_le _)
     refine ⟨w', _, ?_, by simpa using r2, r3, fun i j c x hi hj hc => ?_⟩
     ·simp only [execOp, ho, el, ec, Sem.run_bind, r1, Result.andThen_ok, Sem.run_pure]
      rfl
     ·have hjs : j < sz := by rw [← hsz]; exact (List.getElem?_eq_some_iff.1 hj).1
      have hlt : i * sz + j < N * sz := by
       have : (i + 1) * sz ≤ N * sz := Nat.mul_le_mul_right _ (by have : ((N : Int)).toNat = N := Int.toNat_natCast N; omega)
       rw [Nat.succ_mul] at this; omega
      have hmod : (i * sz + j) % sz = j := by rw [Nat.add_comm, Nat.add_mul_mod_self_right, Nat.mod_eq_of_lt hjs]
      simp only [madeCells, Array.toList_map, Array.toList_range, List.getElem?_map, List.getElem?_range hlt, Option.map_some, Option.some.injEq] at hc
      rw [hzs, hmod] at hc
      rw [← hc]
      have hj' : z0.cells[j]? = some x := by simpa using hj
      rw [getElem!_def, hj']
    ·obtain ⟨w', r1, r2, r3⟩ := run_make_own (P := C.P) (w := w) 0 t e ii z0 sz hu hii hz his kl kc N hbytes hmx (Nat.zero_le _)
     refine ⟨w', [], ?_, by simpa using r2, r3, fun i j c x hi => by simp at hi⟩
     simp only [execOp, ho, el, ec, Sem.run_bind, r1, Result.andThen_ok, Sem.run_pure]
     rfl
   obtain ⟨w', xs, r1, r2, r3, r4⟩ := hrun
   refine wp_value r1 ?_
   have hnew : ∀ (k : Nat), M w.heap.size k = none := by
    intro k
    cases hm : M w.heap.size k with
    | none => rfl
    | some v => have := hs.cell_lt hm; omega
   have h1 := hs.own_new (E' := fun m => if m = nm d then .slice (some ⟨w.heap.size, 0, none⟩) n.toNat N else E m) (d := nm d) (o' := .vec e sz (List.replicate n.toNat (z0.cells.toList.map .v))) r3
    (fun m hm => by simp [hm]) hn.1 hn.2 (fun b hb => by simp [Own.foot, blockOf] at hb; omega)
    ⟨xs, by simpa using r2, fun r hr => by rw [List.eq_of_mem_replicate hr, List.length_map]; exact hsz, fun i j r c x hr hx hc => by
     have hi : i < n.toNat := by have := (List.getElem?_eq_some_iff.1 hr).1; simpa using this
     have hr' : r = z0.cells.toList.map .v := by
      rw [List.getElem?_replicate, if_pos hi] at hr
      simpa using hr.symm
     subst hr'
     rw [List.getElem?_map, Option.map_eq_some_iff] at hx
     obtain ⟨y, hy, rfl⟩ := hx
     rw [r4 i j c y hi hy hc]
     exact .v y, fun b hb k => by simp [blockOf] at hb; subst hb; exact hnew k⟩
   have h2 := h1.put o.dst hd (HRep.vh (nm d) n.toNat n.toNat N (some ⟨w.heap.size, 0, none⟩) (by simp) (Nat.le_refl _))
   exact hK _ _ _ _ _ hk (by rw [hdst] at h2 ⊢; exact h2.weaken (fun t x hx => .inl hx) (fun m p hm => hm))
  ·exact hv.elim
 ·exact hv.elim
theorem ok_makeMap {t : TypeId} {hint : Option Operand} (ho : o.op = .makeMap t hint) : OpOk C nm o := by
 intro E M S a w K Q k hs hv hK
 simp only [AVal, ho] at hv
 split at hv
 ·rename_i kt et d hu hdst
  obtain ⟨hh, hnw, hk⟩ := hv
  have hn := hnw (nm d) (by simp)
  have hrun : (execOp a.eval o).run C.P w = .ok (.value (.map (some w.heap.size))) (w.alloc (.map #[] 0)) := by
   cases hint with
   | none => simp only [execOp, ho, Option.map_none, Instr.makeMap, Sem.run_bind, run_newObj_alloc, Result.andThen_ok, Sem.run_pure]
   | some x =>
    have hx := hs.ev x
    simp only [hintOk] at hh
    split at hh
    ·rename_i ki m he
     rw [he] at hx
     have hx := hx.dv
     simp only [execOp, ho, Option.map_some, hx, Instr.makeMap, asInt, asIntOf, Sem.run_bind, run_underlying hu, run_newObj_alloc, Result.andThen_ok, Sem.run_pure]
    ·cases hh
  refine wp_value hrun ?_
  have hnew : ∀ (k : Nat), M w.heap.size k = none := by
   intro k
   cases hm : M w.heap.size k with
   | none => rfl
   | some v => have := hs.cell_lt hm; omega
  have h1 := hs.own_new (E' := fun m => if m = nm d then .map (some w.heap.size) else E m) (d := nm d) (o' := .map []) (World.grownBy_alloc w (.map #[] 0) none)
   (fun m hm => by simp [hm]) hn.1 hn.2 (fun b hb => by simp [Own.foot, blockOf] at hb; omega)
   ⟨w.heap.size, #[], 0, by simp, heap_alloc_new w _, List.nodup_nil, ⟨[], .refl _, rfl, fun i e p he => by simp at he⟩, ⟨by simp, by simp⟩, hnew⟩
  have h2 := h1.put o.dst hd (HRep.mp (nm d) w.heap.size (by simp))
  exact hK _ _ _ _ _ hk (by rw [hdst] at h2 ⊢; exact h2.weaken (fun t x hx => .inl hx) (fun m p hm => hm))
 ·exact hv.elim
theorem ok_lookup {t : TypeId} {x i : Operand} {commaOk : Bool} (ho : o.op = .lookup t x i commaOk) : OpOk C nm o := by
 intro E M S a w K Q k hs hv hK
 simp only [AVal, ho] at hv
 split at hv
 ·rename_i kt et hu
  split at hv
  ·rename_i kind z n key hkt hz hx hi
   split at hv
   ·rename_i es hown
    split at hv
    ·rename_i q hq
     have hv' : (simpleKey kind = true ∧ strictM kind key es = true) ∧ k { val := if commaOk = true then .tup [.d (q.getD z), .d (.v (.bool q.isSome))] else .d (q.getD z), acc := [n] } := by
      cases commaOk with
      | true => exact ⟨hv.1, hv.2.2⟩
      | false => exact ⟨hv.1, hv.2.2⟩
     clear hv
     obtain ⟨⟨hsk, hst⟩, hk⟩ := hv'
     have ei : a.eval i = key := by have := hs.ev i; rw [hi] at this; exact this.dv
     have hxv := hs.ev x
     rw [hx] at hxv
     generalize hxq : a.eval x = xv at hxv
     cases hxv with
     | mp n b hE =>
      obtain ⟨b', es', clock, h1, h2, h3, h4, h6, h5⟩ := hs.own n _ hown
      rw [hE] at h1; cases h1
      obtain ⟨z', hz1, hz2⟩ := zeroX_spec hz
      have key' : ∃ v ok, (Instr.lookup t (.map (some b)) key commaOk).run C.P w = .ok (if commaOk then .tuple #[v, .bool ok] else v) w ∧ DRep M v (q.getD z) ∧ ok = q.isSome := by
       rcases findM_perm h3 h4 hst hq with ⟨rfl, hf⟩ | ⟨j, v, d, rfl, hf, hd'⟩
       ·refine ⟨z', false, ?_, hz2 M, rfl⟩
        simp only [Instr.lookup, Sem.run_bind, run_underlying hu, Result.andThen_ok, MapKept.run_getObj_map h2, Sem.run_pure, run_checkKey_simple hkt hsk, Instr.findKey, run_underlying hkt, hf, hz1]
        try (cases commaOk <;> rfl)
       ·refine ⟨v, true, ?_, hd', rfl⟩
        simp only [Instr.lookup, Sem.run_bind, run_underlying hu, Result.andThen_ok, MapKept.run_getObj_map h2, Sem.run_pure, run_checkKey_simple hkt hsk, Instr.findKey, run_underlying hkt, hf]
        try (cases commaOk <;> rfl)
      obtain ⟨v, ok, hr, hdv, hok⟩ := key'
      subst hok
      refine wp_value (v := if commaOk then .tuple #[v, .bool q.isSome] else v) (w' := w) ?_ (hK _ _ _ _ _ hk (hs.app_val hd rfl ?_))
      ·simp only [execOp, ho, hxq, ei, Sem.run_bind, hr, Result.andThen_ok, Sem.run_pure]
      ·cases commaOk with
       | false => simp only [Bool.false_eq_true, if_false]; exact .d hdv
       | true =>
        simp only [if_true]
        refine .tup _ _ rfl fun i c y hc hy => ?_
        match i with
        | 0 => simp at hc hy; subst hc; subst hy; exact .d hdv
        | 1 => simp at hc hy; subst hc; subst hy; exact .d (.v _)
        | i + 2 => simp at hc
    ·exact hv.elim
   ·exact hv.elim
  ·exact hv.elim
 ·exact hv.elim
omit hd in
theorem stamps_push {es : Array MapEntry} {clock : Nat} (h : Stamps es clock) {key val : Value} : Stamps (es.push { key := key, val := val, born := clock }) (clock + 1) := by
 refine ⟨fun e he => ?_, ?_⟩
 ·simp only [Array.toList_push, List.mem_append, List.mem_singleton] at he
  rcases he with he | rfl
  ·exact Nat.lt_succ_of_lt (h.1 e he)
  ·exact Nat.lt_succ_self _
 ·simp only [Array.toList_push, List.map_append, List.map_cons, List.map_nil, List.nodup_append]
  refine ⟨h.2, by simp, fun a ha b hb => ?_⟩
  simp at hb; subst hb
  obtain ⟨e, he, rfl⟩ := List.mem_map.1 ha
  exact Nat.ne_of_lt (h.1 e he)
omit hd in
theorem stamps_modify {es : Array MapEntry} {clock : Nat} (h : Stamps es clock) {j : Nat} {f : MapEntry → MapEntry} (hf : ∀ e, (f e).born = e.born) : Stamps (es.modify j f) clock := by
 have hm : (es.modify j f).toList.map (·.born) = es.toList.map (·.born) := by
  apply List.ext_getElem?
  intro i
  simp only [List.getElem?_map, Array.getElem?_toList, Array.getElem?_modify]
  split
  ·cases es[i]? with
   | none => rfl
   | some e => simp [hf]
  ·rfl
 refine ⟨fun e he => ?_, by rw [hm]; exact h.2⟩
 have : e.born ∈ (es.modify j f).toList.map (·.born) := List.mem_map_of_mem (f := (·.born)) he
 rw [hm] at this
 obtain ⟨e', he', hb⟩ := List.mem_map.1 this
 rw [← hb]; exact h.1 e' he'
theorem ok_updM {t : TypeId} {x i y : Operand} (hrun : ∀ (ρ : Operand → Value) (w w' : World), (Instr.mapUpdate t (ρ x) (ρ i) (ρ y)).run C.P w = .ok () w' → (execOp ρ o).run C.P w = .ok .skip w')
  (hval : ∀ (ρ : Operand → H) (ω : Nat → Option Own) (k : Eff → Prop), AVal C.P nm o ρ ω k → updM C.P ρ ω t x i y k) : OpOk C nm o := by
 intro E M S a w K Q k hs hv hK
 have hv := hval _ _ _ hv
 simp only [updM] at hv
 split at hv
 ·rename_i kt et hu
  split at hv
  ·rename_i kind n key dv hkt hx hi hy
   split at hv
   ·rename_i es hown
    split at hv
    ·rename_i es2 hq
     obtain ⟨⟨hsk, hst⟩, es5, hpm, _, hk⟩ := hv
     have ei : a.eval i = key := by have := hs.ev i; rw [hi] at this; exact this.dv
     have ey : DRep M (a.eval y) dv := by have := hs.ev y; rw [hy] at this; exact this.toD
     have hxv := hs.ev x
     rw [hx] at hxv
     generalize hxq : a.eval x = xv at hxv
     cases hxv with
     | mp n b hE =>
      obtain ⟨b', es', clock, h1, h2, h3, h4, h6, h5⟩ := hs.own n _ hown
      rw [hE] at h1; cases h1
      have hblt : b < w.heap.size := (Array.getElem?_eq_some_iff.1 h2).1
      have key' : ∃ (es3 : Array MapEntry) (clock' : Nat), (Instr.mapUpdate t (.map (some b)) key (a.eval y)).run C.P w = .ok () { w with heap := w.heap.setIfInBounds b (.map es3 clock') } ∧ KeysNd es2 ∧
        Entries M es3.toList es2 ∧ Stamps es3 clock' := by
       rcases setM_perm h3 h4 hst hq with ⟨hf, g1, g2⟩ | ⟨j, v, e0, hf, he0, hsame, g1, g2⟩
       ·refine ⟨es'.push { key := key, val := a.eval y, born := clock }, clock + 1, ?_, g1, ?_, stamps_push h6⟩
        ·simp only [Instr.mapUpdate, Sem.run_bind, run_underlying hu, Result.andThen_ok, MapKept.run_getObj_map h2, run_checkKey_simple hkt hsk, Instr.findKey, run_underlying hkt, hf, Sem.run_pure, MapKept.run_setObj_map _ h2]
        ·rw [Array.toList_push]
         exact g2 _ rfl ey
       ·have hge : es'[j]? = some e0 := by simpa using he0
        refine ⟨es'.modify j fun e => { e with key := key, val := a.eval y }, clock, ?_, g1, ?_, stamps_modify h6 (fun _ => rfl)⟩
        ·have hkeep : (Instr.keyThatStays (((es'[j]?).map (·.key)).getD key) key).run C.P w = .ok key w := by
          simp only [Instr.keyThatStays, hge, Option.map_some, Option.getD_some, sameBits_of hsame, if_true, Sem.run_pure]
         simp only [Instr.mapUpdate, Sem.run_bind, run_underlying hu, Result.andThen_ok, MapKept.run_getObj_map h2, run_checkKey_simple hkt hsk, Instr.findKey, run_underlying hkt, hf, Sem.run_pure, hkeep, MapKept.run_setObj_map _ h2]
        ·have hl : (es'.modify j fun e => { e with key := key, val := a.eval y }).toList = es'.toList.set j { e0 with key := key, val := a.eval y } := by
          apply List.ext_getElem?
          intro i
          rw [Array.getElem?_toList, Array.getElem?_modify, List.getElem?_set]
          by_cases hij : j = i
          ·subst hij
           have hj : j < es'.toList.length := (List.getElem?_eq_some_iff.1 he0).1
           rw [if_pos rfl, if_pos rfl, if_pos hj, hge]; rfl
          ·rw [if_neg hij, if_neg hij, Array.getElem?_toList]
         rw [hl]
         exact g2 _ rfl ey
      obtain ⟨es3, clock', hr, hnd, hrep, hst3⟩ := key'
      refine wp_skip' (w' := { w with heap := w.heap.setIfInBounds b (.map es3 clock') }) ?_ ?_
      ·exact hrun a.eval w _ (by rw [hxq, ei]; exact hr)
      ·have hmv := hs.own_step (E' := E) (n := n) (d := n) (o' := .map es5) hown (w' := { w with heap := w.heap.setIfInBounds b (.map es3 clock') })
        (by rw [hE]; exact ⟨rfl, rfl, rfl, by simp, fun k hk hne => by simp only [blockOf] at hne; rw [Array.getElem?_setIfInBounds_ne (by intro e; subst e; exact hne rfl)]⟩) (fun _ _ => rfl) (.inl ⟨rfl, rfl⟩) (fun b' hb => .inl hb)
        (fun b' hb => by have := hs.block_lt hown hb; simpa using this)
        ⟨b, es3, clock', hE, by simp [hblt], hnd.perm hpm.symm, hrep.perm hpm.symm, hst3, fun k => ((hs.own n _ hown).block (b := b) (by rw [hE]; rfl)).2 k⟩
       have hp := hmv.put o.dst hd (HRep.junk undef)
       refine hK _ _ _ _ _ hk (hp.weaken (fun t x hx => .inl hx) (fun m p hm => ?_))
       simp only [AState.own?, AState.app, List.cons_append, List.nil_append, gt_cons] at hm ⊢
       by_cases hnm : n = m
       ·rw [if_pos hnm] at hm ⊢; exact hm
       ·rw [if_neg hnm] at hm ⊢; rw [if_neg hnm]; exact hm
    ·exact hv.elim
   ·exact hv.elim
  ·exact hv.elim
 ·exact hv.elim
theorem ok_mapUpdate {t : TypeId} {x i y : Operand} (ho : o.op = .mapUpdate t x i y) : OpOk C nm o :=
 ok_updM hd (x := x) (i := i) (y := y) (t := t) (fun ρ w w' h => by simp only [execOp, ho, Sem.run_bind, h, Result.andThen_ok, Sem.run_pure]) fun ρ ω k h => by simpa only [AVal, ho] using h
theorem ok_insert {t : TypeId} {x i y : Operand} (ho : o.op = .insert t x i y) : OpOk C nm o :=
 ok_updM hd (x := x) (i := i) (y := y) (t := t) (fun ρ w w' h => by simp only [execOp, ho, Sem.run_bind, h, Result.andThen_ok, Sem.run_pure]) fun ρ ω k h => by simpa only [AVal, ho] using h
theorem ok_range {t : TypeId} {x : Operand} (ho : o.op = .range t x) : OpOk C nm o := by
 intro E M S a w K Q k hs hv hK
 simp only [AVal, ho] at hv
 split at hv
 ·rename_i s d hu hx hdst
  obtain ⟨hnw, hk⟩ := hv
  have hn := hnw (nm d) (by simp)
  have ex : a.eval x = .string s := by have := hs.ev x; rw [hx] at this; exact this.dv
  have hrun : (execOp a.eval o).run C.P w = .ok (.value (.pointer (some ⟨w.heap.size, 0, none⟩))) (w.alloc (.stringIter s 0)) := by
   simp only [execOp, ho, ex, Instr.range, Sem.run_bind, run_underlying hu, run_newObj_alloc, Result.andThen_ok, Sem.run_pure]
  refine wp_value hrun ?_
  have hnew : ∀ (k : Nat), M w.heap.size k = none := by
   intro k
   cases hm : M w.heap.size k with
   | none => rfl
   | some v => have := hs.cell_lt hm; omega
  have h1 := hs.own_new (E' := fun m => if m = nm d then .pointer (some ⟨w.heap.size, 0, none⟩) else E m) (d := nm d) (o' := .iter s 0) (World.grownBy_alloc w (.stringIter s 0) none)
   (fun m hm => by simp [hm]) hn.1 hn.2 (fun b hb => by simp [Own.foot, blockOf] at hb; omega)
   ⟨w.heap.size, by simp, heap_alloc_new w _, hnew⟩
  have h2 := h1.put o.dst hd (HRep.bp (nm d) 0 w.heap.size (by simp))
  exact hK _ _ _ _ _ hk (by rw [hdst] at h2 ⊢; exact h2.weaken (fun t x hx => .inl hx) (fun m p hm => hm))
 ·rename_i kt et m d hu hx hdst
  split at hv
  ·rename_i es hown
   obtain ⟨hnw, hk⟩ := hv
   have hn := hnw (nm d) (by simp)
   have hxv := hs.ev x
   rw [hx] at hxv
   generalize hxq : a.eval x = xv at hxv
   cases hxv with
   | mp m b hE =>
    obtain ⟨b', es', clock, h1, h2, h3, h4, h6, h5⟩ := hs.own m _ hown
    rw [hE] at h1; cases h1
    have hblt : b < w.heap.size := (Array.getElem?_eq_some_iff.1 h2).1
    have hne : nm d ≠ m := fun e => by have := hn.1; rw [e] at this; simp [AState.fresh, hown] at this
    have hrun : (execOp a.eval o).run C.P w = .ok (.value (.pointer (some ⟨w.heap.size, 0, none⟩))) (w.alloc (.mapIter (some b) clock #[] clock)) := by
     simp only [execOp, ho, hxq, Instr.range, Sem.run_bind, run_underlying hu, MapKept.run_getObj_map h2, run_newObj_alloc, Result.andThen_ok, Sem.run_pure]
    refine wp_value hrun ?_
    have hnew : ∀ (k : Nat), M w.heap.size k = none := by
     intro k
     cases hm : M w.heap.size k with
     | none => rfl
     | some v => have := hs.cell_lt hm; omega
    have hga := World.grownBy_alloc w (.mapIter (some b) clock #[] clock) none
    have hold : (w.alloc (.mapIter (some b) clock #[] clock)).heap[b]? = w.heap[b]? := hga.block b hblt (by simp)
    have hmv := hs.own_step (E' := fun k => if k = nm d then .pointer (some ⟨w.heap.size, 0, none⟩) else E k) (n := m) (d := nm d) (o' := .miter m es es none) hown (w' := w.alloc (.mapIter (some b) clock #[] clock))
     ⟨hga.os, hga.tape, hga.output, hga.size, fun k hk _ => hga.block k hk (by simp)⟩ (fun k hk => by simp [hk]) (.inr hn)
     (fun b' hb => by
       simp only [if_true] at hb
       rcases hb with hb | ⟨r, s1, s2, s3, hb, h⟩
       ·simp [blockOf] at hb; exact .inr (by omega)
       ·simp [blockOf] at hb; subst hb
        rw [heap_alloc_new] at h; cases h
        exact .inl (by rw [hE]; rfl))
     (fun b' hb => by simp [blockOf] at hb; subst hb; exact (Array.getElem?_eq_some_iff.1 (heap_alloc_new w _)).1)
     ⟨w.heap.size, b, es', clock, clock, #[], clock, by simp, by simp [Ne.symm hne]; exact hE, by omega, heap_alloc_new w _, by rw [hold]; exact h2, h3, h4, h6, ⟨Nat.le_refl _, Nat.le_refl _⟩, h6.1, (fun p hp => by cases hp),
      by rw [List.filter_eq_self.2 (fun e _ => by simp)]; exact h4, hnew, h5⟩
    have h2 := hmv.put o.dst hd (HRep.bp (nm d) 0 w.heap.size (by simp))
    exact hK _ _ _ _ _ hk (by rw [hdst] at h2 ⊢; exact h2.weaken (fun t x hx => .inl hx) (fun m p hm => hm))
  ·exact hv.elim
 ·exact hv.elim
omit hd in
theorem run_getObj_iter {P : Program} {w : World} {r : Nat} {s : ByteArray} {p : Nat} (hb : w.heap[r]? = some (.stringIter s p)) : (getObj r).run P w = .ok (.stringIter s p) w := by
 simp [getObj, Sem.run, hb]
omit hd in
theorem run_setObj_iter {P : Program} {w : World} {r : Nat} {s : ByteArray} {p : Nat} (o : Obj) (hb : w.heap[r]? = some (.stringIter s p)) : (setObj r o).run P w = .ok () { w with heap := w.heap.setIfInBounds r o } := by
 simp [setObj, Sem.run, hb]
omit hd in
theorem filter_erase {l : List MapEntry} (hn : (l.map (·.born)).Nodup) : ∀ {i : Nat} {e : MapEntry}, l[i]? = some e → l.filter (fun x => !(x.born == e.born)) = l.eraseIdx i := by
 induction l with
 | nil => intro i e h; simp at h
 | cons x r ih =>
  intro i e h
  rw [List.map_cons, List.nodup_cons] at hn
  cases i with
  | zero =>
   simp at h; subst h
   rw [List.eraseIdx_cons_zero, List.filter_cons]
   simp only [beq_self_eq_true, Bool.not_true, Bool.false_eq_true, if_false]
   refine List.filter_eq_self.2 fun y hy => ?_
   have : y.born ≠ x.born := fun hb => hn.1 (by rw [← hb]; exact List.mem_map_of_mem (f := (·.born)) hy)
   simpa using this
  | succ i =>
   have he : e ∈ r := List.mem_of_getElem? (by simpa using h)
   have hne : x.born ≠ e.born := fun hb => hn.1 (by rw [hb]; exact List.mem_map_of_mem (f := (·.born)) he)
   rw [List.eraseIdx_cons_succ, List.filter_cons, ← ih hn.2 (by simpa using h)]
   simp [hne]
theorem ok_nextM {x : Operand} (ho : o.op = .next x false) : OpOk C nm o := by
 intro E M S a w K Q k hs hv hK
 simp only [AVal, ho] at hv
 split at hv
 ·rename_i n off hx
  split at hv
  ·rename_i m es rest cur hown
   have hxv := hs.ev x
   rw [hx] at hxv
   generalize hxq : a.eval x = xv at hxv
   cases hxv with
   | bp n off r hE =>
    obtain ⟨rfl, hv0, hv1⟩ := hv
    obtain ⟨r', b, es', clock, since, seen, last, h1, h2, h3, h4, h5, h6, h7, h8, h9, h10, h11, ⟨l', p1, p2, p3⟩, h12, h13⟩ := hs.own n _ hown
    rw [hE] at h1; cases h1
    have hrlt : r < w.heap.size := (Array.getElem?_eq_some_iff.1 h4).1
    have hnd : ((es'.toList.filter fun e => !seen.contains e.born).map (·.born)).Nodup := h8.2.sublist (List.filter_sublist.map _)
    have hfoot : (Own.miter m es rest cur).foot w (E n) b := .inr ⟨r, since, seen, last, by rw [hE]; rfl, h4⟩
    have hgo : (execOp a.eval o).run C.P w = ((Instr.next (.pointer (some ⟨r, 0, none⟩)) false o.type).run C.P w).andThen fun v w' => .ok (.value v) w' := by
     simp only [execOp, ho, hxq, Sem.run_bind, Sem.run_pure]
    rcases run_next_at (P := C.P) w o.type r b since last seen es' clock h4 h5 h10 h9.1 with ⟨hz, hr⟩ | ⟨e, he, w1, hw1, hr⟩
    ·have hl0 : es'.toList.filter (fun e => !seen.contains e.born) = [] := by
      have : (leftOf es' seen).toList = [] := by rw [Array.eq_empty_of_size_eq_zero hz]
      simpa [leftOf] using this
     rw [hl0] at p1
     have hl' : l' = [] := p1.eq_nil
     have hrest : rest = [] := List.eq_nil_of_length_eq_zero (by rw [← p2, hl']; rfl)
     obtain ⟨_, hk⟩ := hv0 hrest
     refine wp_value (v := .tuple #[.bool false]) (w' := w) (by rw [hgo, hr]; rfl) ?_
     have hmv := hs.own_stepG (E' := E) (n := n) (d := m) (o' := .map es) hown (w' := w) ⟨rfl, rfl, rfl, Nat.le_refl _, fun _ _ _ => rfl⟩ (fun _ _ => rfl) (.inl ⟨rfl, trivial⟩)
      (fun b' hb => by rw [h2] at hb; simp [Own.foot, blockOf] at hb; subst hb; exact .inl hfoot)
      (fun b' hb => by rw [h2] at hb; simp [blockOf] at hb; subst hb; exact (Array.getElem?_eq_some_iff.1 h5).1)
      ⟨b, es', clock, h2, h5, h6, h7, h8, h13⟩
     have hp := hmv.put o.dst hd (x := .tup [.d (.v (.bool false))]) (.tup #[.bool false] _ rfl fun i c y hc hy => by
      match i with
      | 0 => simp at hc hy; subst hc; subst hy; exact .d (.v _)
      | i + 1 => simp at hc)
     exact hK _ _ _ _ _ hk (hp.weaken (fun t x hx => .inl hx) (fun m p hm => hm))
    ·have hel : e ∈ es'.toList.filter fun e => !seen.contains e.born := by simpa [leftOf] using he
     have hes : e ∈ es'.toList := (List.mem_filter.1 hel).1
     obtain ⟨i, hi⟩ := List.getElem?_of_mem (p1.mem_iff.2 hel)
     have hil : i < rest.length := by rw [← p2]; exact (List.getElem?_eq_some_iff.1 hi).1
     have hpi := List.getElem?_eq_getElem hil
     obtain ⟨_, hk⟩ := hv1 i _ hpi
     obtain ⟨k1, k2⟩ := p3 i e _ hi hpi
     have hh : w1.heap = w.heap := by rcases hw1 with rfl | rfl <;> rfl
     refine wp_value (v := .tuple #[.bool true, e.key, e.val]) (w' := ChangeMaps.setBlock w1 r (.mapIter (some b) since (seen.push e.born) clock)) (by rw [hgo, hr]; rfl) ?_
     have hn' : (l'.map (·.born)).Nodup := ((p1.map _).nodup_iff).2 hnd
     have hsb : (ChangeMaps.setBlock w1 r (.mapIter (some b) since (seen.push e.born) clock)).heap = w.heap.setIfInBounds r (.mapIter (some b) since (seen.push e.born) clock) := by simp [ChangeMaps.setBlock, hh]
     have hmv := hs.own_step (E' := E) (n := n) (d := n) (o' := .miter m es (rest.eraseIdx i) (some rest[i])) hown (w' := ChangeMaps.setBlock w1 r (.mapIter (some b) since (seen.push e.born) clock))
      (by
        rw [hE]
        refine ⟨?_, ?_, ?_, by rw [hsb]; simp, fun k hk hne => ?_⟩
        ·rcases hw1 with rfl | rfl <;> rfl
        ·rcases hw1 with rfl | rfl <;> rfl
        ·rcases hw1 with rfl | rfl <;> rfl
        ·simp only [blockOf] at hne
         rw [hsb, Array.getElem?_setIfInBounds_ne (by intro e; subst e; exact hne rfl)])
      (fun _ _ => rfl) (.inl ⟨rfl, rfl⟩)
      (fun b' hb => by
        rcases hb with hb | ⟨r', s1, s2, s3, hb, hq⟩
        ·exact .inl (.inl hb)
        ·rw [hE] at hb; simp [blockOf] at hb; subst hb
         rw [hsb] at hq; simp [hrlt] at hq
         obtain ⟨rfl, _⟩ := hq
         exact .inl hfoot)
      (fun b' hb => by rw [hE] at hb; simp [blockOf] at hb; subst hb; rw [hsb]; simpa using hrlt)
      ⟨r, b, es', clock, since, seen.push e.born, clock, hE, h2, h3, by rw [hsb]; simp [hrlt], by rw [hsb, Array.getElem?_setIfInBounds_ne h3]; exact h5, h6, h7, h8, ⟨h9.2, h9.2⟩, h10,
       (fun p hp => by cases hp; exact ⟨e, hes, ⟨seen, rfl⟩, rfl, k1, k2⟩),
       ⟨l'.eraseIdx i, by
        rw [← filter_erase hn' hi]
        have hq := p1.filter fun x => !(x.born == e.born)
        rw [List.filter_filter] at hq
        refine hq.trans ?_
        rw [List.filter_congr (q := fun x => !(seen.push e.born).contains x.born)]
        intro y _
        simp only [Array.contains_push]
        cases h : (y.born == e.born) <;> cases h' : seen.contains y.born <;> simp_all, by
        rw [List.length_eraseIdx, List.length_eraseIdx, p2], fun j e' p' he' hp' => by
        rw [List.getElem?_eraseIdx] at he' hp'
        by_cases hj : j < i
        ·rw [if_pos hj] at he' hp'; exact p3 j e' p' he' hp'
        ·rw [if_neg hj] at he' hp'; exact p3 (j + 1) e' p' he' hp'⟩, h12, h13⟩
     have hp := hmv.put o.dst hd (x := .tup [.d (.v (.bool true)), .d (.v rest[i].1), .d rest[i].2]) (.tup #[.bool true, e.key, e.val] _ rfl fun i c y hc hy => by
      match i with
      | 0 => simp at hc hy; subst hc; subst hy; exact .d (.v _)
      | 1 => simp at hc hy; subst hc; subst hy; rw [k1]; exact .d (.v _)
      | 2 => simp at hc hy; subst hc; subst hy; exact .d k2
      | i + 3 => simp at hc)
     refine hK _ _ _ _ _ hk (hp.weaken (fun t x hx => .inl hx) (fun m p hm => ?_))
     simp only [AState.own?, AState.app, List.cons_append, List.nil_append, gt_cons] at hm ⊢
     by_cases hnm : n = m
     ·rw [if_pos hnm] at hm ⊢; exact hm
     ·rw [if_neg hnm] at hm ⊢; rw [if_neg hnm]; exact hm
  ·exact hv.elim
 ·exact hv.elim
theorem ok_entry {x : Operand} (ho : o.op = .entry x) : OpOk C nm o := by
 intro E M S a w K Q k hs hv hK
 simp only [AVal, ho] at hv
 split at hv
 ·rename_i n off hx
  split at hv
  ·rename_i m es rest p hown
   have hxv := hs.ev x
   rw [hx] at hxv
   generalize hxq : a.eval x = xv at hxv
   cases hxv with
   | bp n off r hE =>
    obtain ⟨rfl, _, hk⟩ := hv
    obtain ⟨r', b, es', clock, since, seen, last, h1, h2, h3, h4, h5, h6, h7, h8, h9, h10, h11, _, h12, h13⟩ := hs.own n _ hown
    rw [hE] at h1; cases h1
    obtain ⟨e, he, ⟨s0, rfl⟩, rfl, k1, k2⟩ := h11 p rfl
    have hr := run_entry_at (P := C.P) w r b since s0 es' last e h4 h5 he h8.2
    refine wp_value (v := .tuple #[e.key, e.val]) (w' := w) (by simp only [execOp, ho, hxq, Sem.run_bind, hr, Result.andThen_ok, Sem.run_pure]) (hK _ _ _ _ _ hk (hs.app_val hd rfl ?_))
    refine .tup #[e.key, e.val] _ rfl fun i c y hc hy => ?_
    match i with
    | 0 => simp at hc hy; subst hc; subst hy; rw [k1]; exact .d (.v _)
    | 1 => simp at hc hy; subst hc; subst hy; exact .d k2
    | i + 2 => simp at hc
  ·exact hv.elim
 ·exact hv.elim
theorem ok_next {x : Operand} {is : Bool} (ho : o.op = .next x is) : OpOk C nm o := by
 intro E M S a w K Q k hs hv hK
 cases is with
 | false => exact ok_nextM hd ho E M S a w K Q k hs hv hK
 | true =>
 simp only [AVal, ho] at hv
 split at hv
 ·rename_i n off hx
  split at hv
  ·rename_i s pos hown
   have hxv := hs.ev x
   rw [hx] at hxv
   generalize hxq : a.eval x = xv at hxv
   cases hxv with
   | bp n off b hE =>
    obtain ⟨b', g1, g2, g3⟩ := hs.own n _ hown
    rw [hE] at g1; cases g1
    have hblt : b < w.heap.size := (Array.getElem?_eq_some_iff.1 g2).1
    split at hv
    ·rename_i hlt
     obtain ⟨rfl, _, hk⟩ := hv
     have hlt : pos < s.size := Nat.le_of_ble_eq_true hlt
     have hrun : (execOp a.eval o).run C.P w = .ok (.value (.tuple #[.bool true, .int .i64 pos, .int .i32 (Utf8.decode s pos).1])) { w with heap := w.heap.setIfInBounds b (.stringIter s (pos + (Utf8.decode s pos).2)) } := by
      simp only [execOp, ho, hxq, Instr.next, Sem.run_bind, run_getObj_iter g2, Result.andThen_ok, hlt, if_true, run_setObj_iter _ g2, Sem.run_pure, goInt]
     refine wp_value hrun ?_
     have hmv := hs.own_step (E' := E) (n := n) (d := n) (o' := .iter s (pos + (Utf8.decode s pos).2)) hown (w' := { w with heap := w.heap.setIfInBounds b (.stringIter s (pos + (Utf8.decode s pos).2)) })
      (by rw [hE]; exact ⟨rfl, rfl, rfl, by simp, fun k hk hne => by simp only [blockOf] at hne; rw [Array.getElem?_setIfInBounds_ne (by intro e; subst e; exact hne rfl)]⟩) (fun _ _ => rfl) (.inl ⟨rfl, rfl⟩) (fun b' hb => .inl hb)
      (fun b' hb => by have := hs.block_lt hown hb; simpa using this)
      ⟨b, hE, by simp [hblt], g3⟩
     have hp := hmv.put o.dst hd (x := .tup [.d (.v (.bool true)), .d (.v (.int .i64 pos)), .d (.v (.int .i32 (Utf8.decode s pos).1))]) (.tup #[.bool true, .int .i64 pos, .int .i32 (Utf8.decode s pos).1] _ rfl fun i c y hc hy => by
      match i with
      | 0 => simp at hc hy; subst hc; subst hy; exact .d (.v _)
      | 1 => simp at hc hy; subst hc; subst hy; exact .d (.v _)
      | 2 => simp at hc hy; subst hc; subst hy; exact .d (.v _)
      | i + 3 => simp at hc)
     refine hK _ _ _ _ _ hk (hp.weaken (fun t x hx => .inl hx) (fun m p hm => ?_))
     simp only [AState.own?, AState.app, List.cons_append, List.nil_append, gt_cons] at hm ⊢
     by_cases hnm : n = m
     ·rw [if_pos hnm] at hm ⊢; exact hm
     ·rw [if_neg hnm] at hm ⊢; rw [if_neg hnm]; exact hm
    ·rename_i hlt
     obtain ⟨rfl, _, hk⟩ := hv
     have hlt : ¬ pos < s.size := fun h => by rw [show Nat.blt pos s.size = true from Nat.ble_eq_true_of_le h] at hlt; cases hlt
     have hrun : (execOp a.eval o).run C.P w = .ok (.value (.tuple #[.bool false])) w := by
      simp only [execOp, ho, hxq, Instr.next, Sem.run_bind, run_getObj_iter g2, Result.andThen_ok, hlt, if_false, Sem.run_pure]
     refine wp_value hrun (hK _ _ _ _ _ hk (hs.app_val hd rfl ?_))
     refine .tup #[.bool false] _ rfl fun i c y hc hy => ?_
     match i with
     | 0 => simp at hc hy; subst hc; subst hy; exact .d (.v _)
     | i + 1 => simp at hc
  ·exact hv.elim
 ·exact hv.elim
theorem ok_all : OpOk C nm o := by
 cases ho : o.op with
 | move x => exact ok_move hd (.inl ho)
 | assign x => exact ok_move hd (.inr ho)
 | pick c x y => exact ok_pick hd ho
 | alloc t => exact ok_alloc hd ho
 | box t x => exact ok_box hd ho
 | build t ps => exact ok_build hd ho
 | buildSlice t n ps => exact ok_buildSlice hd ho
 | load t x => exact ok_load hd ho
 | store t x y => exact ok_store hd ho
 | nilCheck x => exact ok_nilCheck hd ho
 | binOp op t x y t' => exact ok_binOp hd ho
 | unOp op t x => exact ok_unOp hd ho
 | convert s t x => exact ok_convert hd ho
 | makeFunc f a b => exact ok_makeFunc hd ho
 | makeInterface t x => exact ok_makeInterface hd ho
 | makeSlice t l c => exact ok_makeSlice hd ho
 | makeMap t r => exact ok_makeMap hd ho
 | entry x => exact ok_entry hd ho
 | lookup t x i c => exact ok_lookup hd ho
 | mapUpdate t x i y => exact ok_mapUpdate hd ho
 | insert t x i y => exact ok_insert hd ho
 | range t x => exact ok_range hd ho
 | next x i => exact ok_next hd ho
 | slice t x lo hi mx => exact ok_slice hd ho
 | fieldAddr s x f => exact ok_fieldAddr hd ho
 | field s x f => exact ok_field hd ho
 | indexAddr t x i => exact ok_indexAddr hd ho
 | index t x i => exact ok_index hd ho
 | extract x i => exact ok_extract hd ho
 | call c =>
  cases hc : c.callee with
  | value f => exact ok_callFn hd ho hc
  | builtin b => exact ok_callBuiltin hd ho hc
  | invoke r m => intro E M S a w K Q k hs hv hK; simp [AVal, ho, hc] at hv
 | _ => intro E M S a w K Q k hs hv hK; simp [AVal, ho] at hv
end
end Go.Awp
end
section
namespace Go.Awp
variable [Inhabited GMem]
def guardB (S : AState) (all : List Oper) (j : Nat) (want : Bool) : Option Bool :=
 match all[j]? with
 | some o => match o.dst with
  | some d => match S.get d with
   | .d (.v (.bool b)) => some b
   | .tup [] => some (!want)
   | _ => none
  | none => none
 | none => none
theorem undefH {E : Env} {M : Mem} : HRep E M undef (.tup []) := .tup _ _ rfl fun i c x hc _ => by simp at hc
def aIf (b : Bool) (x y : Prop) : Prop := (b = true → x) ∧ (b = false → y)
theorem Sim.guard {C : Ctx} {E : Env} {M : Mem} {S : AState} {a : Act} {w : World} (hs : Sim C E M S a w) {ops : Array Oper} {j : Nat} {b want : Bool} (h : guardB S ops.toList j want = some b) :
  (yielded ops a.tmps j == some want) = (b == want) := by
 unfold guardB at h
 split at h
 ·rename_i o ho
  split at h
  ·rename_i d hd
   split at h
   ·rename_i b' hb
    simp at h; subst h
    have hg := hs.get d
    rw [hb] at hg
    have hv := hg.dv
    have ho' : ops[j]? = some o := by simpa using ho
    have hlt : a.tmps[d]? = some (.bool b') := by
     cases hq : a.tmps[d]? with
     | none => simp [hq, undef] at hv
     | some x => simp [hq] at hv; rw [hv]
    simp [yielded, ho', hd, hlt]
   ·rename_i hb
    simp only [Option.some.injEq] at h
    rw [← h]
    have hg := hs.get d
    rw [hb] at hg
    have ho' : ops[j]? = some o := by simpa using ho
    have hne : (∃ b, a.tmps[d]? = some (.bool b)) → False := by
     rintro ⟨b, hq⟩
     simp only [Array.getD_eq_getD_getElem?, hq, Option.getD_some] at hg
     cases hg
    have hy : yielded ops a.tmps j = none := by
     unfold yielded
     split
     ·rename_i b hq
      simp [ho', hd] at hq
      exact (hne ⟨b, hq⟩).elim
     ·rfl
    rw [hy]
    cases want <;> rfl
   ·cases h
  ·cases h
 ·cases h
def Ent (S S' : AState) : Prop := ∀ (C : Ctx) (E : Env) (M : Mem) (a : Act) (w : World), Sim C E M S a w → ∃ E' M', Sim C E' M' S' a w
theorem Ent.refl (S : AState) : Ent S S := fun _ E M _ _ h => ⟨E, M, h⟩
theorem Ent.trans {S S' S'' : AState} (h : Ent S S') (k : Ent S' S'') : Ent S S'' := fun C E M a w hs =>
 let ⟨E', M', h'⟩ := h C E M a w hs
 k C E' M' a w h'
def AWp (C : Ctx) (c : Code) (S : AState) (Q : Exit → AState → Prop) : Prop :=
 ∀ (E : Env) (M : Mem) (a : Act) (w : World), Sim C E M S a w → c.wp C.P (fun e a' w' => ∃ S' E' M', Q e S' ∧ Sim C E' M' S' a' w') a w
def eThen (n : AState → Prop) (Q : Exit → AState → Prop) : Exit → AState → Prop
 | .normal, S => n S
 | e, S => Q e S
def eBlock (id : Nat) (Q : Exit → AState → Prop) : Exit → AState → Prop
 | .exit id', S => if id' = id then Q .normal S else Q (.exit id') S
 | e, S => Q e S
section
variable {C : Ctx} {Q : Exit → AState → Prop} {S : AState}
theorem AWp.mono {c : Code} {Q' : Exit → AState → Prop} (h : AWp C c S Q) (hq : ∀ e S, Q e S → Q' e S) : AWp C c S Q' :=
 fun E M a w hs => wp_mono (h E M a w hs) fun e _ _ ⟨S', E', M', q, s⟩ => ⟨S', E', M', hq e S' q, s⟩
theorem AWp.ent {c : Code} {S' : AState} (he : Ent S S') (h : AWp C c S' Q) : AWp C c S Q := fun E M a w hs =>
 let ⟨E', M', hs'⟩ := he C E M a w hs
 h E' M' a w hs'
theorem AWp.seq {x y : Code} (h : AWp C x S (eThen (fun S' => AWp C y S' Q) Q)) : AWp C (.seq x y) S Q := fun E M a w hs =>
 wp_seq (wp_mono (h E M a w hs) fun e a' w' ⟨S', E', M', q, s⟩ => by
  cases e with
  | normal => exact q E' M' a' w' s
  | exit _ => exact ⟨S', E', M', q, s⟩
  | goto _ => exact ⟨S', E', M', q, s⟩
  | ret => exact ⟨S', E', M', q, s⟩
  | panic _ => exact ⟨S', E', M', q, s⟩
  | outgrown => exact ⟨S', E', M', q, s⟩)
theorem AWp.skip (h : Q .normal S) : AWp C .skip S Q := fun E M _ _ hs => wp_skip ⟨S, E, M, h, hs⟩
theorem AWp.ret (h : Q .ret S) : AWp C .ret S Q := fun E M _ _ hs => wp_ret ⟨S, E, M, h, hs⟩
theorem AWp.exit {id : Nat} (h : Q (.exit id) S) : AWp C (.exit id) S Q := fun E M _ _ hs => wp_exit ⟨S, E, M, h, hs⟩
theorem AWp.label {l : Nat} (h : Q .normal S) : AWp C (.label l) S Q := fun E M _ _ hs => wp_label ⟨S, E, M, h, hs⟩
theorem AWp.goto {l : Nat} (h : Q (.goto l) S) : AWp C (.goto l) S Q := fun E M _ _ hs => wp_goto ⟨S, E, M, h, hs⟩
theorem AWp.block {id : Nat} {c : Code} (h : AWp C c S (eBlock id Q)) : AWp C (.block id c) S Q := fun E M a w hs =>
 wp_block (wp_mono (h E M a w hs) fun e a' w' ⟨S', E', M', q, s⟩ => by
  cases e with
  | exit id' =>
   simp only [eBlock] at q
   simp only [Exit.inBlock]
   by_cases hid : id' = id
   ·rw [if_pos hid] at q ⊢; exact ⟨S', E', M', q, s⟩
   ·rw [if_neg hid] at q ⊢; exact ⟨S', E', M', q, s⟩
  | normal => exact ⟨S', E', M', q, s⟩
  | goto _ => exact ⟨S', E', M', q, s⟩
  | ret => exact ⟨S', E', M', q, s⟩
  | panic _ => exact ⟨S', E', M', q, s⟩
  | outgrown => exact ⟨S', E', M', q, s⟩)
theorem AWp.cond {c : Operand} {x y : Code} {b : Bool} (hc : ev S c = .d (.v (.bool b))) (ht : b = true → AWp C x S Q) (hf : b = false → AWp C y S Q) : AWp C (.cond c x y) S Q := fun E M a w hs => by
 have h := hs.ev c
 rw [hc] at h
 cases b with
 | true => exact wp_cond_true h.dv (ht rfl E M a w hs)
 | false => exact wp_cond_false h.dv (hf rfl E M a w hs)
end
def resOne (P : Program) (S : AState) : ResultVar → Option H
 | .tmp t => some (S.get t)
 | .cell a t => match S.get a with
  | .bp n off => match S.own? n, tyLoad P t with
   | some (.box _ cells), some (ag, sz) => loadC ag sz (cells.drop off)
   | _, _ => none
  | _ => none
def resList (P : Program) (S : AState) : List ResultVar → Option (List H)
 | [] => some []
 | x :: r => match resOne P S x, resList P S r with
  | some h, some l => some (h :: l)
  | _, _ => none
def resH (P : Program) (S : AState) (rs : List ResultVar) : Option H :=
 match resList P S rs with
 | some [h] => some h
 | some l => some (.tup l)
 | none => none
def resSem (tmps : Array Value) : ResultVar → Sem Value
 | .tmp t => Pure.pure (tmps.getD t undef)
 | .cell c t => do loadVar t (← asAddr (tmps.getD c undef))
theorem results_eq (fn : Func) (tmps : Array Value) : results fn tmps = (do
  let vs ← fn.results.mapM (resSem tmps)
  Pure.pure (if h : vs.size = 1 then vs[0] else .tuple vs)) := by
 have : (fun (x : ResultVar) => match x with
  | .tmp t => (Pure.pure (tmps.getD t undef) : Sem Value)
  | .cell a t => do loadVar t (← asAddr (tmps.getD a undef))) = resSem tmps := by
  funext x; cases x <;> rfl
 rw [← this]; rfl
theorem run_resList {C : Ctx} {E : Env} {M : Mem} {S : AState} {a : Act} {w : World} (hs : Sim C E M S a w) : ∀ (rs : List ResultVar) (l : List H), resList C.P S rs = some l →
  ∃ vs : List Value, (rs.mapM (resSem a.tmps)).run C.P w = .ok vs w ∧ HReps E M vs.toArray l
 | [], l, h => by
  simp [resList] at h; subst h
  exact ⟨[], by simp, rfl, by simp⟩
 | x :: r, l, h => by
  simp only [resList] at h
  split at h
  ·rename_i y l' hy hl'
   simp at h; subst h
   obtain ⟨vs, h1, h2, h3⟩ := run_resList hs r l' hl'
   have one : ∃ v, (resSem a.tmps x).run C.P w = .ok v w ∧ HRep E M v y := by
    cases x with
    | tmp t =>
     simp [resOne] at hy; subst hy
     exact ⟨_, by simp [resSem], hs.get t⟩
    | cell c t =>
     simp only [resOne] at hy
     split at hy
     ·rename_i n off he
      split at hy
      ·rename_i cells ag sz hc ht
       have hg := hs.get c
       rw [he] at hg
       generalize hq : a.tmps.getD c undef = q at hg
       cases hg with
       | bp n off b hE =>
        obtain ⟨cs, ty, g1, g2, g3, g4, _⟩ := (hs.own n _ hc).box_cell hE
        obtain ⟨v, hr, hrep⟩ := load_rows (cs := cs.toList.drop off) (w := w) (b := b) (off := off) ht (by simp [g2]) (fun j v hv => g4 _ v (by simpa using hv)) (fun i c y hc hy => g3 (off + i) c y (by simpa using hc) (by simpa using hy)) hy
        exact ⟨v, by simp only [resSem, hq, asAddr, Sem.run_bind, Sem.run_pure, Result.andThen_ok]; exact hr, hrep⟩
      ·cases hy
     ·cases hy
   obtain ⟨v, hv1, hv2⟩ := one
   refine ⟨v :: vs, by rw [List.mapM_cons, Sem.run_bind, hv1, Result.andThen_ok, Sem.run_bind, h1, Result.andThen_ok, Sem.run_pure], by simpa using h2, fun i c z hc hz => ?_⟩
   cases i with
   | zero => simp at hc hz; subst hc; subst hz; exact hv2
   | succ i => exact h3 i c z (by simpa using hc) (by simpa using hz)
  ·cases h
theorem run_resH {C : Ctx} {E : Env} {M : Mem} {S : AState} {a : Act} {w : World} (hs : Sim C E M S a w) {fn : Func} {r : H} (h : resH C.P S fn.results.toList = some r) :
  ∃ v, (results fn a.tmps).run C.P w = .ok v w ∧ HRep E M v r := by
 unfold resH at h
 have run : ∀ l, resList C.P S fn.results.toList = some l → ∃ vs : List Value, HReps E M vs.toArray l ∧ (results fn a.tmps).run C.P w = .ok (if h : vs.toArray.size = 1 then vs.toArray[0] else .tuple vs.toArray) w := by
  intro l hl
  obtain ⟨vs, h1, h2⟩ := run_resList hs _ l hl
  refine ⟨vs, h2, ?_⟩
  rw [results_eq, Array.mapM_eq_mapM_toList, Sem.run_bind, Sem.run_map, h1]
  rfl
 split at h
 ·rename_i y hl
  simp at h; subst h
  obtain ⟨vs, h2, h3⟩ := run _ hl
  have hsz : vs.toArray.size = 1 := by simpa using h2.1
  rw [dif_pos hsz] at h3
  exact ⟨_, h3, h2.2 0 _ y (Array.getElem?_eq_getElem (by omega)) rfl⟩
 ·rename_i l hne hl
  simp at h; subst h
  obtain ⟨vs, h2, h3⟩ := run _ hl
  have hsz : ¬ vs.toArray.size = 1 := by
   intro hs1
   rw [h2.1] at hs1
   obtain ⟨x, hx⟩ := List.length_eq_one_iff.1 hs1
   subst hx
   exact hne x rfl
  rw [dif_neg hsz] at h3
  exact ⟨_, h3, .tup _ _ h2.1 h2.2⟩
 ·cases h
def startT : Nat → List H → List (Nat × H)
 | _, [] => []
 | i, x :: r => (i, x) :: startT (i + 1) r
theorem gt_startT : ∀ (l : List H) (i t : Nat) (x : H), gt (startT i l) t = some x → i ≤ t ∧ l[t - i]? = some x
 | [], i, t, x, h => by simp [startT, gt] at h
 | y :: r, i, t, x, h => by
  simp only [startT, gt_cons] at h
  by_cases hi : i = t
  ·subst hi; simp at h; subst h; simp
  ·rw [if_neg hi] at h
   obtain ⟨h1, h2⟩ := gt_startT r (i + 1) t x h
   refine ⟨by omega, ?_⟩
   have : t - i = (t - (i + 1)) + 1 := by omega
   rw [this]; simpa using h2
def startO (own : List (Nat × Own)) : List (Nat × Option Own) := own.map fun p => (p.1, some p.2)
theorem gt_startO : ∀ (own : List (Nat × Own)) (n : Nat), (gt (startO own) n).getD none = gt own n
 | [], n => rfl
 | (k, o) :: r, n => by
  have ih := gt_startO r n
  simp only [startO, List.map_cons, gt_cons] at ih ⊢
  by_cases hk : k = n
  ·simp [hk]
  ·rw [if_neg hk, if_neg hk]; exact ih
end Go.Awp
end
section
namespace Go.Awp
variable [Inhabited GMem]
def det : Op → Bool
 | .next _ false => false
 | _ => true
theorem AVal_ex {P : Program} {nm : Nat → Nat} {o : Oper} {ρ : Operand → H} {ω : Nat → Option Own} {k : Eff → Prop} (hdet : det o.op = true) (hv : AVal P nm o ρ ω k) : ∃ e, AVal P nm o ρ ω (fun e' => e' = e) ∧ k e := by
 unfold AVal at hv ⊢
 cases hop : o.op <;> simp only [hop, updM] at hv ⊢
 case next x is =>
  cases is with
  | false => rw [hop] at hdet; cases hdet
  | true =>
   dsimp only at hv ⊢
   (repeat' split at hv) <;> first
     | exact hv.elim
     | exact ⟨_, ⟨hv.1, rfl⟩, hv.2⟩
     | (simp only [*]; exact ⟨_, ⟨hv.1, rfl⟩, hv.2⟩)
     | (simp only [*]; exact ⟨_, ⟨trivial, rfl⟩, hv.2⟩)
 case buildSlice t len parts =>
  split at hv
  ·rename_i e sz by_ ht
   try simp only [ht]
   split at hv
   ·rename_i rows hr
    try simp only [hr]
    obtain ⟨hv1, hv2⟩ := hv
    split at hv2
    ·rename_i d hd
     split at hv2
     ·rename_i hn
      try simp only [hd, if_pos hn]
      exact ⟨_, ⟨hv1, rfl⟩, hv2⟩
     ·rename_i hn
      try simp only [hd, if_neg hn]
      exact ⟨_, ⟨hv1, rfl⟩, hv2⟩
    ·rename_i hd
     try simp only [hd]
     exact ⟨_, ⟨hv1, rfl⟩, hv2⟩
   ·exact hv.elim
  ·exact hv.elim
 case box t x =>
  split at hv
  ·rename_i cs d hc hd
   obtain ⟨q, h1, h2⟩ := hv
   try simp only [hc, hd]
   exact ⟨_, ⟨q, h1, rfl⟩, h2⟩
  ·exact hv.elim
 all_goals
  first
  | exact ⟨_, rfl, hv⟩
  | ((repeat' split at hv) <;> first
   | exact hv.elim
   | exact ⟨_, rfl, hv⟩
   | exact ⟨_, ⟨hv.1, rfl⟩, hv.2⟩
   | (simp only [*]; exact ⟨_, rfl, hv⟩)
   | (simp only [*]; exact ⟨_, ⟨hv.1, rfl⟩, hv.2⟩)
   | (obtain ⟨⟨c1, c2⟩, es2, h1, h2⟩ := hv; simp only [*]; exact ⟨_, ⟨⟨trivial, trivial⟩, es2, h1, rfl⟩, h2⟩)
   | (obtain ⟨own, r, own', h1, h2, h3⟩ := hv; exact ⟨_, ⟨own, r, own', h1, h2, rfl⟩, h3⟩))
theorem AVal_mono {P : Program} {nm : Nat → Nat} {o : Oper} {ρ : Operand → H} {ω : Nat → Option Own} {k k' : Eff → Prop} (h : ∀ e, k e → k' e) (hv : AVal P nm o ρ ω k) : AVal P nm o ρ ω k' := by
 unfold AVal at hv ⊢
 cases hop : o.op <;> simp only [hop, updM] at hv ⊢
 case next x is =>
  cases is with
  | false =>
   dsimp only at hv ⊢
   (repeat' split at hv) <;> first
     | exact hv.elim
     | exact ⟨hv.1, fun hr => h _ (hv.2.1 hr), fun i p hp => h _ (hv.2.2 i p hp)⟩
  | true =>
   dsimp only at hv ⊢
   (repeat' split at hv) <;> first
     | exact hv.elim
     | exact ⟨hv.1, h _ hv.2⟩
     | (simp only [*]; exact ⟨hv.1, h _ hv.2⟩)
     | (simp only [*]; exact ⟨trivial, h _ hv.2⟩)
 case buildSlice t len parts =>
  split at hv
  ·rename_i e sz by_ ht
   try simp only [ht]
   split at hv
   ·rename_i rows hr
    try simp only [hr]
    obtain ⟨hv1, hv2⟩ := hv
    split at hv2
    ·rename_i d hd
     split at hv2
     ·rename_i hn
      try simp only [hd, if_pos hn]
      exact ⟨hv1, h _ hv2⟩
     ·rename_i hn
      try simp only [hd, if_neg hn]
      exact ⟨hv1, h _ hv2⟩
    ·rename_i hd
     try simp only [hd]
     exact ⟨hv1, h _ hv2⟩
   ·exact hv.elim
  ·exact hv.elim
 case box t x =>
  split at hv
  ·rename_i cs d hc hd
   obtain ⟨q, h1, h2⟩ := hv
   try simp only [hc, hd]
   exact ⟨q, h1, h _ h2⟩
  ·exact hv.elim
 all_goals
  first
  | exact h _ hv
  | ((repeat' split at hv) <;> first
   | exact hv.elim
   | exact h _ hv
   | exact ⟨hv.1, h _ hv.2⟩
   | (simp only [*]; exact h _ hv)
   | (simp only [*]; exact ⟨hv.1, h _ hv.2⟩)
   | (obtain ⟨⟨c1, c2⟩, es2, h1, h2⟩ := hv; exact ⟨⟨c1, c2⟩, es2, h1, h _ h2⟩)
   | (obtain ⟨own, r, own', h1, h2, h3⟩ := hv; exact ⟨own, r, own', h1, h2, h _ h3⟩))
theorem map_congr_ops {l : Array Operand} {ρ ρ' : Operand → H} (h : ∀ x ∈ l, ρ' x = ρ x) : l.toList.map ρ' = l.toList.map ρ :=
 List.map_congr_left fun x hx => h x (Array.mem_toList_iff.1 hx)
theorem map_congr_parts {l : Array (Nat × Operand)} {ρ ρ' : Operand → H} (h : ∀ x ∈ (l.toList.map (·.2)).toArray, ρ' x = ρ x) :
  l.toList.map (fun (p : Nat × Operand) => (p.1, ρ' p.2)) = l.toList.map (fun (p : Nat × Operand) => (p.1, ρ p.2)) :=
 List.map_congr_left fun x hx => by rw [h x.2 (by simpa using ⟨x.1, by simpa using hx⟩)]
theorem bnd_congr {ρ ρ' : Operand → H} {lo : Option Operand} {d : Int} (h : ∀ x ∈ lo.toArray, ρ' x = ρ x) : bnd ρ' lo d = bnd ρ lo d := by
 cases lo with
 | none => rfl
 | some x => simp only [bnd, h x (by simp)]
theorem AVal_congr {P : Program} {nm : Nat → Nat} {o : Oper} {ρ ρ' : Operand → H} {ω ω' : Nat → Option Own} {e : Eff} (hρ : ∀ x ∈ o.op.operands, ρ' x = ρ x) (hω : ∀ n ∈ e.acc, ω' n = ω n) (hdet : det o.op = true)
  (hv : AVal P nm o ρ ω (fun e' => e' = e)) : AVal P nm o ρ' ω' (fun e' => e' = e) := by
 unfold AVal at hv ⊢
 cases hop : o.op <;> simp only [hop, updM] at hv ⊢ <;> simp only [hop, Op.operands] at hρ
 case next x is =>
  cases is with
  | false => rw [hop] at hdet; cases hdet
  | true =>
   dsimp only at hv ⊢
   rw [hρ x (by simp)]
   (repeat' split at hv) <;> first
     | exact hv.elim
     | (obtain ⟨hc1, rfl⟩ := hv; have hw := hω _ (List.mem_singleton.2 rfl); revert hc1; simp only [*, and_true, imp_self]; done)
 case build => simp only [map_congr_parts hρ]; exact hv
 case buildSlice => simp only [map_congr_parts hρ]; exact hv
 case makeFunc fn first captured =>
  rw [map_congr_ops fun x hx => hρ x (by simp [hx]), map_congr_ops fun x hx => hρ x (by simp [hx])]; exact hv
 case slice t x lo hi mx =>
  have hx := hρ x (by simp)
  have hlo := fun d => bnd_congr (ρ := ρ) (ρ' := ρ') (lo := lo) (d := d) fun y hy => hρ y (by simp [hy])
  have hhi := fun d => bnd_congr (ρ := ρ) (ρ' := ρ') (lo := hi) (d := d) fun y hy => hρ y (by simp [hy])
  simp only [hx, hlo, hhi]
  (repeat' split at hv) <;> first
    | exact hv.elim
    | exact hv
    | (obtain ⟨hc1, rfl⟩ := hv; have hw := hω _ (List.mem_singleton.2 rfl); revert hc1; simp only [*, and_true, imp_self]; done)
 case makeMap t hint =>
  have : hintOk ρ' hint = hintOk ρ hint := by
   cases hint with
   | none => rfl
   | some x => simp only [hintOk, hρ x (by simp)]
  rw [this]; exact hv
 case call c =>
  cases hc : c.callee with
  | value f =>
   simp only [hc] at hv ⊢
   simp only [Call.operands, hc] at hρ
   rw [hρ f (by simp), map_congr_ops fun x hx => hρ x (by simp [hx])]
   split at hv
   ·obtain ⟨own, r, own', h1, h2, rfl⟩ := hv
    exact ⟨own, r, own', h1, fun p hp => by rw [hω p.1 (List.mem_map_of_mem hp)]; exact h2 p hp, rfl⟩
   ·exact hv
  | invoke r m => simp only [hc] at hv
  | builtin b =>
   simp only [hc] at hv ⊢
   simp only [Call.operands, hc] at hρ
   rw [map_congr_ops fun x hx => hρ x (by simpa using hx)]
   (repeat' split at hv) <;> first
     | exact hv.elim
     | exact hv
     | (simp only [*]; exact hv)
     | (obtain ⟨hc1, rfl⟩ := hv; have hw := hω _ (List.mem_singleton.2 rfl); revert hc1; simp only [*, and_true, imp_self]; done)
     | skip
 all_goals (try simp only [Array.mem_def, List.mem_cons, List.not_mem_nil, or_false, forall_eq_or_imp, forall_eq] at hρ)
 all_goals first
  | exact hv
  | (simp only [hρ]; first
   | exact hv
   | ((repeat' split at hv) <;> first
    | exact hv.elim
    | exact hv
    | (subst hv; have hw := hω _ (List.mem_singleton.2 rfl); simp only [*]; done)
    | (obtain ⟨hc1, rfl⟩ := hv; have hw := hω _ (List.mem_singleton.2 rfl); revert hc1; simp only [*, and_true, imp_self]; done)
    | (obtain ⟨hc1, rfl⟩ := hv; have hw := hω _ (List.mem_singleton.2 rfl); simp only [*, and_self]; done)
    | (obtain ⟨hc1, es2, hp, rfl⟩ := hv; have hw := hω _ (List.mem_singleton.2 rfl); simp only [*]; exact ⟨⟨trivial, trivial⟩, es2, hp, rfl⟩)))
end Go.Awp
end
section
namespace Go.Awp
variable [Inhabited GMem]
structure Tr1 where
 e : Eff
 ex : Bool
def aopsT (P : Program) (N : Nat) (nm : Nat → Nat) (all : List Oper) : List Oper → AState → List Tr1 → (AState → List Tr1 → Prop) → Prop
 | [], S, tr, k => k S tr
 | o :: os, S, tr, k =>
  ((∀ d, o.dst = some d → d < N) ∧ det o.op = true) ∧
  match o.guard with
  | none => AVal P nm o (ev S) S.own? (fun e => (∀ d ∈ e.new, S.fresh d = true ∧ d < given) ∧ aopsT P N nm all os (S.app o.dst e) (tr ++ [⟨e, true⟩]) k)
  | some (j, want) => match guardB S all j want with
   | some b => aIf (b == want) (AVal P nm o (ev S) S.own? (fun e => (∀ d ∈ e.new, S.fresh d = true ∧ d < given) ∧ aopsT P N nm all os (S.app o.dst e) (tr ++ [⟨e, true⟩]) k))
     (aopsT P N nm all os (S.app o.dst { val := .tup [] }) (tr ++ [⟨{ val := .tup [] }, false⟩]) k)
   | none => False
def Did (P : Program) (N : Nat) (nm : Nat → Nat) (all : List Oper) (o : Oper) (S : AState) (t : Tr1) : Prop :=
 ((∀ d, o.dst = some d → d < N) ∧ det o.op = true) ∧
 (match o.guard with
  | none => t.ex = true
  | some (j, want) => ∃ b, guardB S all j want = some b ∧ t.ex = (b == want)) ∧
 (t.ex = true → AVal P nm o (ev S) S.own? (fun e' => e' = t.e) ∧ ∀ d ∈ t.e.new, S.fresh d = true ∧ d < given) ∧ (t.ex = false → t.e = { val := .tup [] })
def stE (E : Nat → Bool) : Nat → List (Oper × Tr1) → AState → AState
 | _, [], S => S
 | i, (o, t) :: r, S => stE E (i + 1) r (if E i then S.app o.dst t.e else S)
def DidAll (P : Program) (N : Nat) (nm : Nat → Nat) (all : List Oper) : List (Oper × Tr1) → AState → Prop
 | [], _ => True
 | (o, t) :: r, S => Did P N nm all o S t ∧ DidAll P N nm all r (S.app o.dst t.e)
theorem aopsT_ex {P : Program} {N : Nat} {nm : Nat → Nat} {all : List Oper} : ∀ {os : List Oper} {S : AState} {tr : List Tr1} {k : AState → List Tr1 → Prop}, aopsT P N nm all os S tr k →
  ∃ l : List (Oper × Tr1), l.map (·.1) = os ∧ DidAll P N nm all l S ∧ k (stE (fun _ => true) 0 l S) (tr ++ l.map (·.2))
 | [], S, tr, k, h => ⟨[], rfl, trivial, by simpa [aopsT, stE] using h⟩
 | o :: os, S, tr, k, h => by
  have shift : ∀ (l : List (Oper × Tr1)) (i : Nat) (S : AState), stE (fun _ => true) i l S = stE (fun _ => true) 0 l S := by
   intro l
   induction l with
   | nil => intro i S; rfl
   | cons x r ih => intro i S; obtain ⟨o, t⟩ := x; simp only [stE]; rw [ih (i + 1), ih (0 + 1)]
  simp only [aopsT] at h
  obtain ⟨hd, h⟩ := h
  have go : ∀ e, AVal P nm o (ev S) S.own? (fun e' => e' = e) → (∀ d ∈ e.new, S.fresh d = true ∧ d < given) → (match o.guard with | none => True | some (j, want) => ∃ b, guardB S all j want = some b ∧ (b == want) = true) →
    aopsT P N nm all os (S.app o.dst e) (tr ++ [⟨e, true⟩]) k → ∃ l : List (Oper × Tr1), l.map (·.1) = o :: os ∧ DidAll P N nm all l S ∧ k (stE (fun _ => true) 0 l S) (tr ++ l.map (·.2)) := by
   intro e hv hn hg hk
   obtain ⟨l, h1, h2, h3⟩ := aopsT_ex hk
   refine ⟨(o, ⟨e, true⟩) :: l, by simp [h1], ⟨⟨hd, ?_, fun _ => ⟨hv, hn⟩, (fun h => by cases h)⟩, h2⟩, ?_⟩
   ·cases hgu : o.guard with
    | none => rfl
    | some g =>
     obtain ⟨j, want⟩ := g
     rw [hgu] at hg
     obtain ⟨b, hb1, hb2⟩ := hg
     exact ⟨b, hb1, hb2.symm⟩
   ·simp only [stE, if_true, List.map_cons]
    rw [shift]; simpa using h3
  cases hg : o.guard with
  | none =>
   simp only [hg] at h
   obtain ⟨e, hv, hn, hk⟩ := AVal_ex hd.2 h
   exact go e hv hn (by rw [hg]; trivial) hk
  | some g =>
   obtain ⟨j, want⟩ := g
   simp only [hg] at h
   split at h
   ·rename_i b hb
    by_cases hbw : (b == want) = true
    ·have h := h.1 hbw
     obtain ⟨e, hv, hn, hk⟩ := AVal_ex hd.2 h
     exact go e hv hn (by rw [hg]; exact ⟨b, hb, hbw⟩) hk
    ·have hbw : (b == want) = false := by simpa using hbw
     have h := h.2 hbw
     obtain ⟨l, h1, h2, h3⟩ := aopsT_ex h
     refine ⟨(o, ⟨{ val := .tup [] }, false⟩) :: l, by simp [h1], ⟨⟨hd, by rw [hg]; exact ⟨b, hb, hbw.symm⟩, (fun h => by cases h), fun _ => rfl⟩, h2⟩, ?_⟩
     simp only [stE, if_true, List.map_cons]
     rw [shift]; simpa using h3
   ·exact h.elim
def mask (acc : List Nat) (o : Oper) : Nat := o.after.toList.foldl (fun s e => if Region.binds .any e then s ||| (2 ^ e.on ||| (acc[e.on]?).getD 0) else s) 0
def befs (acc : List Nat) : List Oper → List Nat
 | [] => acc
 | o :: r => befs (acc ++ [mask acc o]) r
inductive Ahead (ops : List Oper) : Nat → Nat → Prop
 | one {k : Nat} {o : Oper} {e : Edge} (ho : ops[k]? = some o) (he : e ∈ o.after) (hb : Region.binds .any e = true) : Ahead ops e.on k
 | more {i k : Nat} {o : Oper} {e : Edge} (ho : ops[k]? = some o) (he : e ∈ o.after) (hb : Region.binds .any e = true) (h : Ahead ops i e.on) : Ahead ops i k
theorem mask_spec {ops : List Oper} {acc : List Nat} {k : Nat} {o : Oper} (ho : ops[k]? = some o) (hacc : ∀ j m i, acc[j]? = some m → m.testBit i = true → Ahead ops i j) :
  ∀ i, (mask acc o).testBit i = true → Ahead ops i k := by
 have key : ∀ (l : List Edge) (s : Nat), (∀ e ∈ l, e ∈ o.after) → (∀ i, s.testBit i = true → Ahead ops i k) →
   ∀ i, (l.foldl (fun s e => if Region.binds .any e then s ||| (2 ^ e.on ||| (acc[e.on]?).getD 0) else s) s).testBit i = true → Ahead ops i k := by
  intro l
  induction l with
  | nil => intro s _ hs i h; exact hs i h
  | cons e r ih =>
   intro s hl hs i h
   simp only [List.foldl_cons] at h
   refine ih _ (fun e' he' => hl e' (List.mem_cons_of_mem _ he')) ?_ i h
   intro i' h'
   by_cases hb : Region.binds .any e = true
   ·rw [if_pos hb] at h'
    simp only [Nat.testBit_or, Bool.or_eq_true] at h'
    rcases h' with h' | h' | h'
    ·exact hs i' h'
    ·rw [Nat.testBit_two_pow] at h'
     have : e.on = i' := by simpa using h'
     subst this
     exact .one ho (hl e List.mem_cons_self) hb
    ·cases hq : acc[e.on]? with
     | none => rw [hq] at h'; simp at h'
     | some m => rw [hq] at h'; exact .more ho (hl e List.mem_cons_self) hb (hacc e.on m i' hq h')
   ·rw [if_neg hb] at h'; exact hs i' h'
 intro i h
 exact key o.after.toList 0 (fun e he => Array.mem_toList_iff.1 he) (fun i h => by simp at h) i h
theorem befs_spec {ops : List Oper} : ∀ (l : List Oper) (acc : List Nat), (∀ j o, l[j]? = some o → ops[acc.length + j]? = some o) → (∀ j m i, acc[j]? = some m → m.testBit i = true → Ahead ops i j) →
  ∀ j m i, (befs acc l)[j]? = some m → m.testBit i = true → Ahead ops i j
 | [], acc, _, hacc, j, m, i, hm, hi => hacc j m i hm hi
 | o :: r, acc, hl, hacc, j, m, i, hm, hi => by
  simp only [befs] at hm
  refine befs_spec r (acc ++ [mask acc o]) (fun j o' ho' => ?_) (fun j m i hm hi => ?_) j m i hm hi
  ·have := hl (j + 1) o' (by simpa using ho')
   rw [List.length_append, List.length_singleton]
   rwa [show acc.length + 1 + j = acc.length + (j + 1) by omega]
  ·by_cases hj : j < acc.length
   ·rw [List.getElem?_append_left hj] at hm; exact hacc j m i hm hi
   ·rw [List.getElem?_append_right (by omega)] at hm
    cases hjj : j - acc.length with
    | zero =>
     rw [hjj] at hm; simp at hm; subst hm
     have : j = acc.length := by omega
     subst this
     exact mask_spec (by simpa using hl 0 o rfl) hacc i hi
    | succ q => rw [hjj] at hm; simp at hm
def looks (all : List Oper) (o : Oper) : List Tmp :=
 (o.op.operands.toList.filterMap fun | .tmp t => some t | _ => none) ++
 (match o.guard with
  | some (g, _) => match all[g]? with
   | some x => x.dst.toList
   | none => []
  | none => [])
def Eff.names (e : Eff) : List Nat := e.upd.map (·.1) ++ e.new
def Eff.has (e : Eff) (n : Nat) : Bool := H.has n e.val || e.upd.any fun u => match u.2 with
 | some o => Own.has n o
 | none => false
def confl (all : List Oper) (x y : Oper × Tr1) : Bool :=
 (match x.1.dst with | some d => (looks all y.1).contains d | none => false) ||
 (match y.1.dst with | some d => (looks all x.1).contains d | none => false) ||
 (match x.1.dst, y.1.dst with | some a, some b => Nat.beq a b | _, _ => false) ||
 (x.2.e.names.any fun n => y.2.e.acc.contains n || y.2.e.names.contains n) ||
 (y.2.e.names.any fun n => x.2.e.acc.contains n) ||
 (x.2.e.new.any fun n => y.2.e.has n) ||
 (y.2.e.new.any fun n => x.2.e.has n)
def pairsOk (all : List Oper) (bs : List Nat) : Nat → List (Oper × Tr1) → List (Oper × Tr1) → Bool
 | _, _, [] => true
 | k, done, y :: r => (done.zipIdx.all fun x => !confl all x.1 y || ((bs[k]?).getD 0).testBit x.2) && pairsOk all bs (k + 1) (done ++ [y]) r
def drawOk (ops : List Oper) (tr : List Tr1) : Bool :=
 pairsOk ops (befs [] ops) 0 [] (ops.zip tr) && ops.zipIdx.all (fun x => x.1.after.all fun e => !Region.binds .any e || Nat.blt e.on x.2)
theorem pairsOk_spec {all : List Oper} {bs : List Nat} : ∀ (l done : List (Oper × Tr1)), pairsOk all bs done.length done l = true → ∀ (i k : Nat) (x y : Oper × Tr1), i < k → done.length ≤ k → (done ++ l)[i]? = some x → (done ++ l)[k]? = some y →
  confl all x y = true → ((bs[k]?).getD 0).testBit i = true
 | [], done, _, i, k, x, y, hik, hk, hx, hy, _ => by
  rw [List.append_nil] at hy
  have := (List.getElem?_eq_some_iff.1 hy).1; omega
 | z :: r, done, h, i, k, x, y, hik, hk, hx, hy, hc => by
  simp only [pairsOk, Bool.and_eq_true] at h
  by_cases hkd : k = done.length
  ·subst hkd
   rw [List.getElem?_append_right (Nat.le_refl _)] at hy
   simp at hy; subst hy
   rw [List.getElem?_append_left hik] at hx
   have h1 := h.1
   rw [List.all_eq_true] at h1
   have := h1 (x, i) (List.mk_mem_zipIdx_iff_getElem?.2 hx)
   simp only [hc, Bool.not_true, Bool.false_or] at this
   exact this
  ·have h2 := h.2
   have e : done.length + 1 = (done ++ [z]).length := by simp
   rw [e] at h2
   exact pairsOk_spec r (done ++ [z]) h2 i k x y hik (by simp; omega) (by simpa using hx) (by simpa using hy) hc
end Go.Awp
end
section
namespace Go.Awp
variable [Inhabited GMem]
theorem gt_none {α : Type} : ∀ {l : List (Nat × α)} {n : Nat}, n ∉ l.map (·.1) → gt l n = none
 | [], _, _ => rfl
 | (k, x) :: r, n, h => by
  simp only [List.map_cons, List.mem_cons, not_or] at h
  rw [gt_cons, if_neg (fun e => h.1 e.symm)]
  exact gt_none h.2
theorem gt_some {α : Type} : ∀ {l : List (Nat × α)} {n : Nat}, n ∈ l.map (·.1) → ∃ x, gt l n = some x
 | [], _, h => by simp at h
 | (k, x) :: r, n, h => by
  rw [gt_cons]
  by_cases hk : k = n
  ·exact ⟨x, by rw [if_pos hk]⟩
  ·rw [if_neg hk]
   simp only [List.map_cons, List.mem_cons] at h
   exact gt_some (h.resolve_left fun e => hk e.symm)
theorem stE_tmp {t : Nat} {E E' : Nat → Bool} : ∀ (l : List (Oper × Tr1)) (i : Nat) (S S' : AState), gt S.tmps t = gt S'.tmps t → (∀ k x, l[k]? = some x → x.1.dst = some t → E (i + k) = E' (i + k)) →
  gt (stE E i l S).tmps t = gt (stE E' i l S').tmps t
 | [], _, _, _, h, _ => h
 | (o, tr) :: r, i, S, S', h, hE => by
  simp only [stE]
  refine stE_tmp r (i + 1) _ _ ?_ fun k x hx hd => by
   have := hE (k + 1) x (by simpa using hx) hd
   rwa [show i + 1 + k = i + (k + 1) by omega]
  by_cases hd : o.dst = some t
  ·have := hE 0 (o, tr) rfl hd
   simp only [Nat.add_zero] at this
   rw [this]
   cases E' i with
   | true => simp [AState.app, putT, hd, gt_cons]
   | false => simpa using h
  ·have key : ∀ S : AState, gt (S.app o.dst tr.e).tmps t = gt S.tmps t := by
    intro S
    simp only [AState.app, putT]
    cases hdd : o.dst with
    | none => rfl
    | some d => simp only [gt_cons]; rw [if_neg (fun e => hd (by rw [hdd, e]))]
   cases E i <;> cases E' i <;> simp [key, h]
theorem stE_own {n : Nat} {E E' : Nat → Bool} : ∀ (l : List (Oper × Tr1)) (i : Nat) (S S' : AState), gt S.own n = gt S'.own n → (∀ k x, l[k]? = some x → n ∈ x.2.e.upd.map (·.1) → E (i + k) = E' (i + k)) →
  gt (stE E i l S).own n = gt (stE E' i l S').own n
 | [], _, _, _, h, _ => h
 | (o, tr) :: r, i, S, S', h, hE => by
  simp only [stE]
  refine stE_own r (i + 1) _ _ ?_ fun k x hx hd => by
   have := hE (k + 1) x (by simpa using hx) hd
   rwa [show i + 1 + k = i + (k + 1) by omega]
  by_cases hd : n ∈ tr.e.upd.map (·.1)
  ·have := hE 0 (o, tr) rfl hd
   simp only [Nat.add_zero] at this
   rw [this]
   cases E' i with
   | true =>
    obtain ⟨x, hx⟩ := gt_some hd
    simp [AState.app, gt_app, hx]
   | false => simpa using h
  ·have key : ∀ S : AState, gt (S.app o.dst tr.e).own n = gt S.own n := by
    intro S
    simp only [AState.app, gt_app, gt_none hd]
   cases E i <;> cases E' i <;> simp [key, h]
theorem stE_mem_tmp {E : Nat → Bool} : ∀ (l : List (Oper × Tr1)) (i : Nat) (S : AState) (p : Nat × H), p ∈ (stE E i l S).tmps → p ∈ S.tmps ∨ ∃ k x, l[k]? = some x ∧ E (i + k) = true ∧ x.1.dst = some p.1 ∧ p.2 = x.2.e.val
 | [], _, _, _, h => .inl h
 | (o, tr) :: r, i, S, p, h => by
  simp only [stE] at h
  rcases stE_mem_tmp r (i + 1) _ p h with h1 | ⟨k, x, h1, h2, h3⟩
  ·cases hE : E i with
   | false => rw [hE] at h1; exact .inl h1
   | true =>
    rw [hE] at h1
    simp only [if_true, AState.app, putT] at h1
    cases hd : o.dst with
    | none => rw [hd] at h1; exact .inl h1
    | some d =>
     rw [hd] at h1
     rcases List.mem_cons.1 h1 with h2 | h2
     ·exact .inr ⟨0, (o, tr), rfl, by simpa using hE, by rw [h2]; exact hd, by rw [h2]⟩
     ·exact .inl h2
  ·exact .inr ⟨k + 1, x, by simpa using h1, by rwa [show i + (k + 1) = i + 1 + k by omega], h3⟩
theorem stE_mem_own {E : Nat → Bool} : ∀ (l : List (Oper × Tr1)) (i : Nat) (S : AState) (p : Nat × Option Own), p ∈ (stE E i l S).own → p ∈ S.own ∨ ∃ k x, l[k]? = some x ∧ E (i + k) = true ∧ p ∈ x.2.e.upd
 | [], _, _, _, h => .inl h
 | (o, tr) :: r, i, S, p, h => by
  simp only [stE] at h
  rcases stE_mem_own r (i + 1) _ p h with h1 | ⟨k, x, h1, h2, h3⟩
  ·cases hE : E i with
   | false => rw [hE] at h1; exact .inl h1
   | true =>
    rw [hE] at h1
    simp only [if_true, AState.app] at h1
    rcases List.mem_append.1 h1 with h2 | h2
    ·exact .inr ⟨0, (o, tr), rfl, by simpa using hE, h2⟩
    ·exact .inl h2
  ·exact .inr ⟨k + 1, x, by simpa using h1, by rwa [show i + (k + 1) = i + 1 + k by omega], h3⟩
theorem stE_sub {E : Nat → Bool} : ∀ (l : List (Oper × Tr1)) (i : Nat) (S : AState), (∀ p ∈ S.tmps, p ∈ (stE E i l S).tmps) ∧ (∀ p ∈ S.own, p ∈ (stE E i l S).own)
 | [], _, _ => ⟨fun _ h => h, fun _ h => h⟩
 | (o, tr) :: r, i, S => by
  simp only [stE]
  obtain ⟨h1, h2⟩ := stE_sub r (i + 1) (if E i then S.app o.dst tr.e else S) (E := E)
  refine ⟨fun p hp => h1 p ?_, fun p hp => h2 p ?_⟩
  ·cases E i with
   | false => simpa using hp
   | true =>
    simp only [if_true, AState.app, putT]
    cases o.dst with
    | none => exact hp
    | some d => exact List.mem_cons_of_mem _ hp
  ·cases E i with
   | false => simpa using hp
   | true => simp only [if_true, AState.app]; exact List.mem_append_right _ hp
theorem stE_put {E : Nat → Bool} : ∀ (l : List (Oper × Tr1)) (i : Nat) (S : AState) (k : Nat) (x : Oper × Tr1), l[k]? = some x → E (i + k) = true →
  (∀ d, x.1.dst = some d → (d, x.2.e.val) ∈ (stE E i l S).tmps) ∧ (∀ p ∈ x.2.e.upd, p ∈ (stE E i l S).own)
 | [], _, _, k, x, h, _ => by simp at h
 | (o, tr) :: r, i, S, 0, x, h, hE => by
  simp at h; subst h
  simp only [stE]
  simp only [Nat.add_zero] at hE
  obtain ⟨h1, h2⟩ := stE_sub r (i + 1) (S.app o.dst tr.e) (E := E)
  rw [hE]
  refine ⟨fun d hd => h1 _ ?_, fun p hp => h2 _ ?_⟩
  ·try simp only at hd
   simp [AState.app, putT, hd]
  ·simp only [AState.app]; exact List.mem_append_left _ hp
 | (o, tr) :: r, i, S, k + 1, x, h, hE => by
  simp only [stE]
  exact stE_put r (i + 1) _ k x (by simpa using h) (by rwa [show i + 1 + k = i + (k + 1) by omega])
theorem stE_last_tmp {t : Nat} {E : Nat → Bool} : ∀ (l : List (Oper × Tr1)) (i : Nat) (S : AState) (k : Nat) (x : Oper × Tr1), l[k]? = some x → x.1.dst = some t → E (i + k) = true →
  (∀ j y, l[j]? = some y → k < j → y.1.dst = some t → E (i + j) = false) → gt (stE E i l S).tmps t = some x.2.e.val
 | [], _, _, k, x, h, _, _, _ => by simp at h
 | (o, tr) :: r, i, S, 0, x, h, hd, hE, hl => by
  simp at h; subst h
  simp only [stE]
  simp only [Nat.add_zero] at hE
  rw [hE]
  have := stE_tmp (t := t) (E := E) (E' := fun _ => false) r (i + 1) (if true = true then S.app o.dst tr.e else S) (if true = true then S.app o.dst tr.e else S) rfl fun j y hy hdy => by
   have := hl (j + 1) y (by simpa using hy) (by omega) hdy
   rwa [show i + 1 + j = i + (j + 1) by omega]
  rw [this]
  have none : ∀ (l : List (Oper × Tr1)) (i : Nat) (S : AState), stE (fun _ => false) i l S = S := by
   intro l
   induction l with
   | nil => intro i S; rfl
   | cons y r ih => intro i S; obtain ⟨o, t⟩ := y; simp only [stE]; exact ih _ _
  rw [none]
  try simp only at hd
  simp [AState.app, putT, hd, gt_cons]
 | (o, tr) :: r, i, S, k + 1, x, h, hd, hE, hl => by
  simp only [stE]
  exact stE_last_tmp r (i + 1) _ k x (by simpa using h) hd (by rwa [show i + 1 + k = i + (k + 1) by omega]) fun j y hy hkj hdy => by
   have := hl (j + 1) y (by simpa using hy) (by omega) hdy
   rwa [show i + 1 + j = i + (j + 1) by omega]
theorem stE_last_own {n : Nat} {E : Nat → Bool} : ∀ (l : List (Oper × Tr1)) (i : Nat) (S : AState) (k : Nat) (x : Oper × Tr1), l[k]? = some x → n ∈ x.2.e.upd.map (·.1) → E (i + k) = true →
  (∀ j y, l[j]? = some y → k < j → n ∈ y.2.e.upd.map (·.1) → E (i + j) = false) → gt (stE E i l S).own n = gt x.2.e.upd n
 | [], _, _, k, x, h, _, _, _ => by simp at h
 | (o, tr) :: r, i, S, 0, x, h, hd, hE, hl => by
  simp at h; subst h
  simp only [stE]
  simp only [Nat.add_zero] at hE
  rw [hE]
  have := stE_own (n := n) (E := E) (E' := fun _ => false) r (i + 1) (if true = true then S.app o.dst tr.e else S) (if true = true then S.app o.dst tr.e else S) rfl fun j y hy hdy => by
   have := hl (j + 1) y (by simpa using hy) (by omega) hdy
   rwa [show i + 1 + j = i + (j + 1) by omega]
  rw [this]
  have none : ∀ (l : List (Oper × Tr1)) (i : Nat) (S : AState), stE (fun _ => false) i l S = S := by
   intro l
   induction l with
   | nil => intro i S; rfl
   | cons y r ih => intro i S; obtain ⟨o, t⟩ := y; simp only [stE]; exact ih _ _
  rw [none]
  obtain ⟨u, hu⟩ := gt_some hd
  simp [AState.app, gt_app, hu]
 | (o, tr) :: r, i, S, k + 1, x, h, hd, hE, hl => by
  simp only [stE]
  exact stE_last_own r (i + 1) _ k x (by simpa using h) hd (by rwa [show i + 1 + k = i + (k + 1) by omega]) fun j y hy hkj hdy => by
   have := hl (j + 1) y (by simpa using hy) (by omega) hdy
   rwa [show i + 1 + j = i + (j + 1) by omega]
theorem DidAll.at {P : Program} {N : Nat} {nm : Nat → Nat} {all : List Oper} : ∀ (l : List (Oper × Tr1)) (i : Nat) (S : AState), DidAll P N nm all l S → ∀ k x, l[k]? = some x →
  Did P N nm all x.1 (stE (fun j => decide (j < i + k)) i l S) x.2
 | [], _, _, _, k, x, h => by simp at h
 | (o, t) :: r, i, S, h, 0, x, hx => by
  simp at hx; subst hx
  have none : ∀ (l : List (Oper × Tr1)) (j : Nat) (S : AState), i ≤ j → stE (fun k => decide (k < i + 0)) j l S = S := by
   intro l
   induction l with
   | nil => intro j S _; rfl
   | cons y r ih => intro j S hj; obtain ⟨o, t⟩ := y; simp only [stE]; rw [if_neg (by simp; omega)]; exact ih _ _ (by omega)
  rw [none _ _ _ (Nat.le_refl _)]
  exact h.1
 | (o, t) :: r, i, S, h, k + 1, x, hx => by
  have := DidAll.at r (i + 1) _ h.2 k x (by simpa using hx)
  simp only [stE]
  rw [if_pos (by simp)]
  rwa [show i + 1 + k = i + (k + 1) by omega] at this
end Go.Awp
end
section
namespace Go.Awp
variable [Inhabited GMem]
theorem mem_looks_tmp {all : List Oper} {o : Oper} {t : Tmp} (h : Operand.tmp t ∈ o.op.operands) : t ∈ looks all o := by
 unfold looks
 refine List.mem_append_left _ (List.mem_filterMap.2 ⟨_, Array.mem_toList_iff.2 h, rfl⟩)
theorem guardB_congr {S S' : AState} {all : List Oper} {o : Oper} {j : Nat} {w : Bool} (hg : o.guard = some (j, w)) (h : ∀ t ∈ looks all o, gt S'.tmps t = gt S.tmps t) : guardB S' all j w = guardB S all j w := by
 unfold guardB
 cases hj : all[j]? with
 | none => rfl
 | some x =>
  cases hd : x.dst with
  | none => simp [hd]
  | some d =>
   have : d ∈ looks all o := by
    unfold looks
    refine List.mem_append_right _ ?_
    simp [hg, hj, hd]
   simp only [hd, AState.get, h d this]
section
variable {C : Ctx} {nm : Nat → Nat} {ops : Array Oper} {l : List (Oper × Tr1)} {S0 : AState}
def doneB (listed : Array Bool) (k : Nat) : Bool := listed.getD k false
theorem draw_step (hl : l.map (·.1) = ops.toList) (hdid : DidAll C.P C.N nm ops.toList l S0)
  (hp : pairsOk ops.toList (befs [] ops.toList) 0 [] l = true) {listed : Array Bool} (hsz : listed.size = ops.size)
  (hdown : ∀ k o e, ops[k]? = some o → doneB listed k = true → e ∈ o.after → Region.binds .any e = true → doneB listed e.on = true)
  {i : Nat} {x : Oper × Tr1} (hi : l[i]? = some x) (hni : doneB listed i = false) (hready : ∀ e ∈ x.1.after, Region.binds .any e = true → doneB listed e.on = true)
  {E : Env} {M : Mem} {a : Act} {w : World} (hs : Sim C E M (stE (doneB listed) 0 l S0) a w) {K : Act → World → Prop} {Q : Exit → Act → World → Prop}
  (hK : ∀ E' M' a' w', Sim C E' M' (stE (doneB (listed.setIfInBounds i true)) 0 l S0) a' w' → K a' w') : wpOp C.P ops Q i K a w := by
 have hio : ops[i]? = some x.1 := by
  have : (l.map (·.1))[i]? = some x.1 := by rw [List.getElem?_map, hi]; rfl
  rw [hl] at this; simpa using this
 have hlo : ∀ (k : Nat) (y : Oper × Tr1), l[k]? = some y → ops[k]? = some y.1 := by
  intro k y hy
  have : (l.map (·.1))[k]? = some y.1 := by rw [List.getElem?_map, hy]; rfl
  rw [hl] at this; simpa using this
 have hilt : i < listed.size := by rw [hsz]; exact (Array.getElem?_eq_some_iff.1 hio).1
 have hahead : ∀ j k, Ahead ops.toList j k → doneB listed k = true → doneB listed j = true := by
  intro j k h
  induction h with
  | one ho he hb => intro hk; exact hdown _ _ _ (by simpa using ho) hk he hb
  | more ho he hb _ ih => intro hk; exact ih (hdown _ _ _ (by simpa using ho) hk he hb)
 have hbef : ∀ j k m, (befs [] ops.toList)[k]? = some m → m.testBit j = true → Ahead ops.toList j k := fun j k m hm hb =>
  befs_spec ops.toList [] (fun j o h => by simpa using h) (fun j m i h => by simp at h) k m j hm hb
 have horder : ∀ (j k : Nat) (y z : Oper × Tr1), j < k → l[j]? = some y → l[k]? = some z → confl ops.toList y z = true → Ahead ops.toList j k := by
  intro j k y z hjk hy hz hc
  have := pairsOk_spec l [] hp j k y z hjk (Nat.zero_le _) (by simpa using hy) (by simpa using hz) hc
  cases hm : (befs [] ops.toList)[k]? with
  | none => rw [hm] at this; simp at this
  | some m => rw [hm] at this; exact hbef j k m hm this
 have hreadyA : ∀ j, Ahead ops.toList j i → doneB listed j = true := by
  intro j h
  cases h with
  | one ho he hb => exact hready _ (by rw [Array.getElem?_toList, hio] at ho; cases ho; exact he) hb
  | more ho he hb h => exact hahead _ _ h (hready _ (by rw [Array.getElem?_toList, hio] at ho; cases ho; exact he) hb)
 have hsame : ∀ (k : Nat) (y : Oper × Tr1), l[k]? = some y → (confl ops.toList y x = true ∨ confl ops.toList x y = true) → k ≠ i → doneB listed k = decide (k < i) := by
  intro k y hy hc hki
  rcases Nat.lt_or_gt_of_ne hki with h | h
  ·have hc' : confl ops.toList y x = true := by
    rcases hc with hc | hc
    ·exact hc
    ·simp only [confl, Bool.or_eq_true, List.any_eq_true] at hc ⊢
     rcases hc with (((((h1 | h1) | h1) | ⟨n, h2, h3⟩) | ⟨n, h2, h3⟩) | ⟨n, h2, h3⟩) | ⟨n, h2, h3⟩
     ·exact .inl (.inl (.inl (.inl (.inl (.inr h1)))))
     ·exact .inl (.inl (.inl (.inl (.inl (.inl h1)))))
     ·refine .inl (.inl (.inl (.inl (.inr ?_))))
      cases hx : x.1.dst <;> cases hyd : y.1.dst <;> rw [hx, hyd] at h1 <;> simp at h1 ⊢
      exact h1.symm
     ·rcases h3 with h3 | h3
      ·exact .inl (.inl (.inr ⟨n, h2, h3⟩))
      ·exact .inl (.inl (.inl (.inr ⟨n, by simpa using h3, .inr (by simpa using h2)⟩)))
     ·exact .inl (.inl (.inl (.inr ⟨n, h2, .inl h3⟩)))
     ·exact .inr ⟨n, h2, h3⟩
     ·exact .inl (.inr ⟨n, h2, h3⟩)
   rw [hreadyA k (horder k i y x h hy hi hc')]; simp [h]
  ·have hc' : confl ops.toList x y = true := by
    rcases hc with hc | hc
    ·simp only [confl, Bool.or_eq_true, List.any_eq_true] at hc ⊢
     rcases hc with (((((h1 | h1) | h1) | ⟨n, h2, h3⟩) | ⟨n, h2, h3⟩) | ⟨n, h2, h3⟩) | ⟨n, h2, h3⟩
     ·exact .inl (.inl (.inl (.inl (.inl (.inr h1)))))
     ·exact .inl (.inl (.inl (.inl (.inl (.inl h1)))))
     ·refine .inl (.inl (.inl (.inl (.inr ?_))))
      cases hx : x.1.dst <;> cases hyd : y.1.dst <;> rw [hx, hyd] at h1 <;> simp at h1 ⊢
      exact h1.symm
     ·rcases h3 with h3 | h3
      ·exact .inl (.inl (.inr ⟨n, h2, h3⟩))
      ·exact .inl (.inl (.inl (.inr ⟨n, by simpa using h3, .inr (by simpa using h2)⟩)))
     ·exact .inl (.inl (.inl (.inr ⟨n, h2, .inl h3⟩)))
     ·exact .inr ⟨n, h2, h3⟩
     ·exact .inl (.inr ⟨n, h2, h3⟩)
    ·exact hc
   have hA := horder i k x y h hi hy hc'
   cases hd : doneB listed k with
   | false => simp; omega
   | true => rw [hahead i k hA hd] at hni; cases hni
 have hat := DidAll.at l 0 S0 hdid i x hi
 simp only [Nat.zero_add] at hat
 have hwr_tmp : ∀ t, (t ∈ looks ops.toList x.1 ∨ x.1.dst = some t) → ∀ (k : Nat) (y : Oper × Tr1), l[k]? = some y → y.1.dst = some t → k ≠ i → doneB listed k = decide (k < i) := by
  intro t ht k y hy hyd hki
  refine hsame k y hy ?_ hki
  rcases ht with ht | ht
  ·left; simp only [confl, hyd, Bool.or_eq_true]; exact .inl (.inl (.inl (.inl (.inl (.inl (by simpa using ht))))))
  ·left; simp only [confl, hyd, ht, Bool.or_eq_true]; exact .inl (.inl (.inl (.inl (.inr (Nat.beq_refl t)))))
 have hlook : ∀ t ∈ looks ops.toList x.1, gt (stE (doneB listed) 0 l S0).tmps t = gt (stE (fun j => decide (j < i)) 0 l S0).tmps t := by
  intro t ht
  refine stE_tmp l 0 S0 S0 rfl fun k y hy hyd => ?_
  simp only [Nat.zero_add]
  by_cases hki : k = i
  ·subst hki; rw [hni]; simp
  ·exact hwr_tmp t (.inl ht) k y hy hyd hki
 have hwr_own : ∀ n, (n ∈ x.2.e.acc ∨ n ∈ x.2.e.names) → ∀ (k : Nat) (y : Oper × Tr1), l[k]? = some y → n ∈ y.2.e.upd.map (·.1) → k ≠ i → doneB listed k = decide (k < i) := by
  intro n hn k y hy hyn hki
  refine hsame k y hy (.inl ?_) hki
  simp only [confl, Bool.or_eq_true, List.any_eq_true]
  refine .inl (.inl (.inl (.inr ⟨n, by unfold Eff.names; exact List.mem_append_left _ hyn, ?_⟩)))
  rcases hn with hn | hn
  ·exact .inl (by simpa using hn)
  ·exact .inr (by simpa using hn)
 have hacc : ∀ n, (n ∈ x.2.e.acc ∨ n ∈ x.2.e.names) → gt (stE (doneB listed) 0 l S0).own n = gt (stE (fun j => decide (j < i)) 0 l S0).own n := by
  intro n hn
  refine stE_own l 0 S0 S0 rfl fun k y hy hyn => ?_
  simp only [Nat.zero_add]
  by_cases hki : k = i
  ·subst hki; rw [hni]; simp
  ·exact hwr_own n hn k y hy hyn hki
 obtain ⟨⟨hd, hdt⟩, hg, hex, hnex⟩ := hat
 have hset : ∀ k, doneB (listed.setIfInBounds i true) k = if k = i then true else doneB listed k := by
  intro k
  unfold doneB
  by_cases hk : k = i
  ·subst hk; simp [hilt]
  ·rw [if_neg hk]; simp [Array.getElem?_setIfInBounds_ne (Ne.symm hk)]
 have hnext : ∀ E' M' a' w', Sim C E' M' ((stE (doneB listed) 0 l S0).app x.1.dst x.2.e) a' w' → K a' w' := by
  intro E' M' a' w' h
  refine hK E' M' a' w' (h.weaken (fun t y hy => .inl ?_) (fun n o ho => ?_))
  ·rw [← hy]
   by_cases hdt : x.1.dst = some t
   ·rw [stE_last_tmp l 0 S0 i x hi hdt (by rw [Nat.zero_add, hset]; simp) fun k z hz hik hzd => by
     rw [Nat.zero_add, hset, if_neg (by omega), hwr_tmp t (.inr hdt) k z hz hzd (by omega)]; simp; omega]
    simp [AState.app, putT, hdt, gt_cons]
   ·rw [stE_tmp (E := doneB (listed.setIfInBounds i true)) (E' := doneB listed) l 0 S0 S0 rfl fun k z hz hzd => by
     rw [Nat.zero_add, hset]
     by_cases hk : k = i
     ·subst hk; rw [hi] at hz; cases hz; exact (hdt hzd).elim
     ·rw [if_neg hk]]
    simp only [AState.app, putT]
    cases hxd : x.1.dst with
    | none => rfl
    | some d => simp only [gt_cons]; rw [if_neg (fun e => hdt (by rw [hxd, e]))]
  ·rw [← ho]
   simp only [AState.own?]
   congr 1
   by_cases hn : n ∈ x.2.e.upd.map (·.1)
   ·rw [stE_last_own l 0 S0 i x hi hn (by rw [Nat.zero_add, hset]; simp) fun k z hz hik hzn => by
     rw [Nat.zero_add, hset, if_neg (by omega), hwr_own n (.inr (by unfold Eff.names; exact List.mem_append_left _ hn)) k z hz hzn (by omega)]; simp; omega]
    obtain ⟨u, hu⟩ := gt_some hn
    simp [AState.app, gt_app, hu]
   ·rw [stE_own (E := doneB (listed.setIfInBounds i true)) (E' := doneB listed) l 0 S0 S0 rfl fun k z hz hzn => by
     rw [Nat.zero_add, hset]
     by_cases hk : k = i
     ·subst hk; rw [hi] at hz; cases hz; exact (hn hzn).elim
     ·rw [if_neg hk]]
    simp only [AState.app, gt_app, gt_none hn]
 have hwant : Region.wanted x.1 (yielded ops a.tmps) = x.2.ex := by
  unfold Region.wanted
  cases hgu : x.1.guard with
  | none => rw [hgu] at hg; exact hg.symm
  | some g =>
   obtain ⟨j, want⟩ := g
   rw [hgu] at hg
   obtain ⟨b, hb1, hb2⟩ := hg
   rw [← guardB_congr hgu hlook] at hb1
   have hy := hs.guard hb1
   rw [hb2]
   exact hy
 unfold wpOp
 rw [hio]
 simp only [hwant]
 cases hx : x.2.ex with
 | false =>
  simp only [Bool.false_eq_true, if_false]
  have he := hnex hx
  refine hnext E M _ w ?_
  exact hs.app_val (o := x.1) hd (by rw [he]) (by rw [he]; exact undefH)
 | true =>
  simp only [if_true]
  left
  obtain ⟨hv, hnew⟩ := hex hx
  have hv' := AVal_congr (ρ' := ev (stE (doneB listed) 0 l S0)) (ω' := (stE (doneB listed) 0 l S0).own?) (fun y hy => by
   cases y with
   | tmp t => simp only [ev, AState.get, hlook t (mem_looks_tmp hy)]
   | const v => rfl
   | global g => rfl
   | func f => rfl) (fun n hn => by simp only [AState.own?, hacc n (.inl hn)]) hdt hv
  have hfresh : ∀ d ∈ x.2.e.new, (stE (doneB listed) 0 l S0).fresh d = true ∧ d < given := by
   intro d hdn
   obtain ⟨hf, hlt⟩ := hnew d hdn
   refine ⟨?_, hlt⟩
   have hown : (stE (doneB listed) 0 l S0).own? d = (stE (fun j => decide (j < i)) 0 l S0).own? d := by
    simp only [AState.own?, hacc d (.inr (by unfold Eff.names; exact List.mem_append_right _ hdn))]
   have hno : ∀ (k : Nat) (y : Oper × Tr1), l[k]? = some y → doneB listed k = true → y.2.e.has d = true → k < i := by
    intro k y hy hk hh
    by_cases hki : k = i
    ·subst hki; rw [hk] at hni; cases hni
    ·have := hsame k y hy (.inr (by
      simp only [confl, Bool.or_eq_true, List.any_eq_true]
      exact .inl (.inr ⟨d, hdn, hh⟩))) hki
     rw [hk] at this; simpa using this.symm
   simp only [AState.fresh, Bool.and_eq_true, List.all_eq_true, Bool.not_eq_true'] at hf ⊢
   obtain ⟨⟨hf1, hf2⟩, hf3⟩ := hf
   refine ⟨⟨by rw [hown]; exact hf1, fun p hp => ?_⟩, fun p hp => ?_⟩
   ·rcases stE_mem_tmp l 0 S0 p hp with h | ⟨k, y, h1, h2, h3', h3⟩
    ·exact hf2 p ((stE_sub l 0 S0).1 p h)
    ·simp only [Nat.zero_add] at h2
     cases hh : H.has d p.2 with
     | false => rfl
     | true =>
      rw [h3] at hh
      have hki := hno k y h1 h2 (by simp [Eff.has, hh])
      have := (stE_put (E := fun j => decide (j < i)) l 0 S0 k y h1 (by simpa using hki)).1 p.1 h3'
      have := hf2 _ this
      simp only at this
      rw [hh] at this; cases this
   ·rcases stE_mem_own l 0 S0 p hp with h | ⟨k, y, h1, h2, h3⟩
    ·exact hf3 p ((stE_sub l 0 S0).2 p h)
    ·simp only [Nat.zero_add] at h2
     cases hpo : p.2 with
     | none => rfl
     | some oo =>
      simp only []
      cases hh : Own.has d oo with
      | false => rfl
      | true =>
       have hki := hno k y h1 h2 (by
        simp only [Eff.has, Bool.or_eq_true, List.any_eq_true]
        exact .inr ⟨p, h3, by rw [hpo]; exact hh⟩)
       have := (stE_put (E := fun j => decide (j < i)) l 0 S0 k y h1 (by simpa using hki)).2 p h3
       have := hf3 p this
       rw [hpo] at this
       simp [hh] at this
  have hfin : AVal C.P nm x.1 (ev (stE (doneB listed) 0 l S0)) (stE (doneB listed) 0 l S0).own? (fun e => (∀ d ∈ e.new, (stE (doneB listed) 0 l S0).fresh d = true ∧ d < given) ∧ e = x.2.e) :=
   AVal_mono (fun e he => ⟨by rw [he]; exact hfresh, he⟩) hv'
  exact ok_all hd E M _ a w K Q (fun e => e = x.2.e) hs hfin fun e E' M' a' w' he h => hnext E' M' a' w' (he ▸ h)
theorem draw_any (hl : l.map (·.1) = ops.toList) (hdid : DidAll C.P C.N nm ops.toList l S0) (hp : pairsOk ops.toList (befs [] ops.toList) 0 [] l = true)
  (hlow : ∀ (k : Nat) (o : Oper) (e : Edge), ops[k]? = some o → e ∈ o.after → Region.binds .any e = true → e.on < k) {Q : Exit → Act → World → Prop}
  (hQ : ∀ E' M' a' w', Sim C E' M' (stE (fun _ => true) 0 l S0) a' w' → Q .normal a' w') :
  ∀ (fuel : Nat) (listed : Array Bool) (E : Env) (M : Mem) (a : Act) (w : World), listed.size = ops.size → listed.toList.countP (fun b => !b) ≤ fuel →
   (∀ k o e, ops[k]? = some o → doneB listed k = true → e ∈ o.after → Region.binds .any e = true → doneB listed e.on = true) → Sim C E M (stE (doneB listed) 0 l S0) a w →
   wpAny C.P .any ops Q fuel listed a w := by
 have hlen : l.length = ops.size := by
  have := congrArg List.length hl; simpa using this
 have hall : ∀ (listed : Array Bool), listed.size = ops.size → Region.ready .any ops listed = [] → ∀ k, k < ops.size → doneB listed k = true := by
  intro listed hsz hr k
  induction k using Nat.strongRecOn with
  | _ k ih =>
   intro hk
   cases hd : doneB listed k with
   | true => rfl
   | false =>
    have ho : ops[k]? = some ops[k] := Array.getElem?_eq_getElem hk
    have : k ∈ Region.ready .any ops listed := by
     rw [mem_ready]
     refine ⟨?_, ops[k], ho, fun e he hb => ih e.on (hlow k _ e ho he hb) (Nat.lt_trans (hlow k _ e ho he hb) hk)⟩
     unfold doneB at hd
     have hkl : k < listed.size := by omega
     simp [hkl] at hd ⊢; exact hd
    rw [hr] at this; cases this
 have hend : ∀ (listed : Array Bool) (E : Env) (M : Mem) (a : Act) (w : World), listed.size = ops.size → Region.ready .any ops listed = [] → Sim C E M (stE (doneB listed) 0 l S0) a w → Q .normal a w := by
  intro listed E M a w hsz hr hs
  refine hQ E M a w (hs.weaken (fun t y hy => .inl ?_) (fun n o ho => ?_))
  ·rw [← hy]
   exact stE_tmp l 0 S0 S0 rfl fun k y hy _ => by
    rw [Nat.zero_add]; exact hall listed hsz hr k (by have := (List.getElem?_eq_some_iff.1 hy).1; omega)
  ·rw [← ho]
   simp only [AState.own?]
   have he := stE_own (n := n) (E := doneB listed) (E' := fun _ => true) l 0 S0 S0 rfl fun k y hy _ => by
    rw [Nat.zero_add]; exact hall listed hsz hr k (by have := (List.getElem?_eq_some_iff.1 hy).1; omega)
   rw [he]
 intro fuel
 induction fuel with
 | zero =>
  intro listed E M a w hsz hc hdown hs
  have hr : Region.ready .any ops listed = [] := by
   cases hr : Region.ready .any ops listed with
   | nil => rfl
   | cons i r =>
    have hi : i ∈ Region.ready .any ops listed := by rw [hr]; exact List.mem_cons_self
    rw [mem_ready] at hi
    have h0 : listed.toList.countP (fun b => !b) = 0 := by omega
    rw [List.countP_eq_zero] at h0
    have hil : i < listed.size := by
     obtain ⟨_, o, ho, _⟩ := hi
     have := (Array.getElem?_eq_some_iff.1 ho).1; omega
    have := h0 listed[i] (by simp)
    have h1 := hi.1
    simp [hil] at h1
    simp [h1] at this
  exact ⟨hr, hend listed E M a w hsz hr hs⟩
 | succ fuel ih =>
  intro listed E M a w hsz hc hdown hs
  refine ⟨fun hr => hend listed E M a w hsz hr hs, fun i hi => ?_⟩
  rw [mem_ready] at hi
  obtain ⟨h0, o, ho, hready⟩ := hi
  have hio : i < ops.size := (Array.getElem?_eq_some_iff.1 ho).1
  have hil : i < listed.size := by omega
  obtain ⟨x, hx⟩ : ∃ x, l[i]? = some x := ⟨l[i]'(by omega), List.getElem?_eq_getElem (by omega)⟩
  have hxo : x.1 = o := by
   have : (l.map (·.1))[i]? = some x.1 := by rw [List.getElem?_map, hx]; rfl
   rw [hl] at this
   simp [ho] at this; exact this.symm
  have hni : doneB listed i = false := by
   unfold doneB; simp [hil] at h0 ⊢; exact h0
  refine draw_step hl hdid hp hsz hdown hx hni (fun e he hb => hready e (by rw [← hxo]; exact he) hb) hs fun E' M' a' w' hs' => ?_
  refine ih _ E' M' a' w' (by simpa using hsz) ?_ (fun k o' e hk hd he hb => ?_) hs'
  ·rw [Array.toList_setIfInBounds, List.countP_set (by simpa using hil)]
   have hli : listed.toList[i]'(by simpa using hil) = false := by simpa [hil] using h0
   have hpos : 0 < listed.toList.countP (fun b => !b) := List.countP_pos_iff.2 ⟨false, by rw [← hli]; exact List.getElem_mem _, rfl⟩
   simp only [hli, Bool.not_false, if_true, Bool.not_true, Bool.false_eq_true, if_false]
   omega
  ·unfold doneB at hd ⊢
   by_cases hki : k = i
   ·subst hki
    rw [ho] at hk; cases hk
    exact getD_set_true (hready e he hb)
   ·rw [getD_set_ne false (Ne.symm hki)] at hd
    exact getD_set_true (hdown k o' e hk hd he hb)
end
section
variable [Inhabited GMem]
inductive Runs (ops : Array Oper) : Array Bool → List Nat → Prop
 | nil {listed : Array Bool} (h : Region.ready .any ops listed = []) : Runs ops listed []
 | cons {listed : Array Bool} {i : Nat} {is : List Nat} (h : i ∈ Region.ready .any ops listed) (hr : Runs ops (listed.setIfInBounds i true) is) : Runs ops listed (i :: is)
theorem countP_set_lt {listed : Array Bool} {i : Nat} (h : listed.getD i true = false) : (listed.setIfInBounds i true).toList.countP (fun b => !b) < listed.toList.countP (fun b => !b) := by
 have hil : i < listed.size := by
  rcases Nat.lt_or_ge i listed.size with h2 | h2
  ·exact h2
  ·simp [Array.getElem?_eq_none h2] at h
 rw [Array.toList_setIfInBounds, List.countP_set (by simpa using hil)]
 have hli : listed.toList[i]'(by simpa using hil) = false := by simpa [hil] using h
 have hpos : 0 < listed.toList.countP (fun b => !b) := List.countP_pos_iff.2 ⟨false, by rw [← hli]; exact List.getElem_mem _, rfl⟩
 simp only [hli, Bool.not_false, if_true, Bool.not_true, Bool.false_eq_true, if_false]
 omega
theorem runs_linearise (ops : Array Oper) : ∀ (fuel t : Nat) (listed : Array Bool), listed.toList.countP (fun b => !b) ≤ fuel → Runs ops listed (Region.linearise.go .any ops fuel t listed []) := by
 intro fuel
 induction fuel with
 | zero =>
  intro t listed h
  simp only [Region.linearise.go, List.reverse_nil]
  refine .nil ?_
  cases hr : Region.ready .any ops listed with
  | nil => rfl
  | cons i r =>
   have hi : i ∈ Region.ready .any ops listed := by rw [hr]; exact List.mem_cons_self
   have := countP_set_lt (mem_ready.1 hi).1
   omega
 | succ fuel ih =>
  intro t listed h
  simp only [Region.linearise.go]
  change Runs ops listed (match (Region.ready .any ops listed)[t % (Region.ready .any ops listed).length]? with
   | some i => Region.linearise.go .any ops fuel (t / (Region.ready .any ops listed).length) (listed.setIfInBounds i true) [i]
   | none => [].reverse)
  cases hi : (Region.ready .any ops listed)[t % (Region.ready .any ops listed).length]? with
  | none =>
   refine .nil ?_
   cases hr : Region.ready .any ops listed with
   | nil => rfl
   | cons i r =>
    rw [hr] at hi
    rw [List.getElem?_eq_none_iff] at hi
    have := Nat.mod_lt t (show 0 < (i :: r).length by simp)
    omega
  | some i =>
   simp only
   rw [linearise_go_acc]
   have hm := List.mem_of_getElem? hi
   have := countP_set_lt (mem_ready.1 hm).1
   exact .cons hm (ih _ _ (by omega))
def swq (p q k : Nat) : Nat := if k = p then q else if k = q then p else k
theorem swq_swq (p q k : Nat) : swq p q (swq p q k) = k := by
 unfold swq
 repeat' split
 all_goals omega
def varOp (s : Nat → Nat) (extra : Array Edge) (o : Oper) : Oper :=
 { dst := o.dst, op := o.op, type := o.type, pos := o.pos, after := (o.after.map fun e => { on := s e.on, ground := e.ground }) ++ extra, guard := o.guard.map fun g => (s g.1, g.2) }
def varOps (p q x y : Nat) (ops : Array Oper) : Array Oper :=
 ((List.range ops.size).map fun k => match ops[swq p q k]? with
   | some o => varOp (swq p q) (if swq p q k = y then #[{ on := swq p q x, ground := .phase }] else #[]) o
   | none => default).toArray
theorem varOps_size (p q x y : Nat) (ops : Array Oper) : (varOps p q x y ops).size = ops.size := by simp [varOps]
theorem swq_lt {p q k n : Nat} (hp : p < n) (hq : q < n) : swq p q k < n ↔ k < n := by
 unfold swq
 repeat' split
 all_goals omega
theorem varOps_at {p q x y : Nat} {ops : Array Oper} (hp : p < ops.size) (hq : q < ops.size) {k : Nat} {o : Oper} (h : ops[k]? = some o) :
  (varOps p q x y ops)[swq p q k]? = some (varOp (swq p q) (if k = y then #[{ on := swq p q x, ground := .phase }] else #[]) o) := by
 have hk : k < ops.size := (Array.getElem?_eq_some_iff.1 h).1
 have hk2 : swq p q k < ops.size := (swq_lt hp hq).2 hk
 unfold varOps
 rw [List.getElem?_toArray, List.getElem?_map, List.getElem?_range hk2]
 simp only [Option.map_some, swq_swq, h]
theorem varOps_none {p q x y : Nat} {ops : Array Oper} (hp : p < ops.size) (hq : q < ops.size) {k : Nat} (h : ops[k]? = none) : (varOps p q x y ops)[swq p q k]? = none := by
 have hk : ¬ k < ops.size := by
  intro hk
  rw [Array.getElem?_eq_getElem hk] at h; cases h
 rw [Array.getElem?_eq_none_iff, varOps_size]
 have := (swq_lt (k := k) hp hq).1
 omega
theorem wpOps_var {P : Program} {p q x y : Nat} {ops : Array Oper} (hp : p < ops.size) (hq : q < ops.size) {Q : Exit → Act → World → Prop} :
  ∀ (is : List Nat) (a : Act) (w : World), wpOps P (varOps p q x y ops) Q (is.map (swq p q)) a w → wpOps P ops Q is a w
 | [], a, w, h => h
 | i :: is, a, w, h => by
  rw [List.map_cons, wpOps_cons] at h
  rw [wpOps_cons]
  unfold wpOp at *
  cases ho : ops[i]? with
  | none =>
   rw [varOps_none hp hq ho] at h
   exact wpOps_var hp hq is a w h
  | some o =>
   rw [varOps_at hp hq ho] at h
   simp only at h ⊢
   have hy : ∀ j, yielded (varOps p q x y ops) a.tmps (swq p q j) = yielded ops a.tmps j := by
    intro j
    unfold yielded
    cases hj : ops[j]? with
    | none => rw [varOps_none hp hq hj]
    | some z => rw [varOps_at hp hq hj]; rfl
   have hw : Region.wanted (varOp (swq p q) (if i = y then #[{ on := swq p q x, ground := .phase }] else #[]) o) (yielded (varOps p q x y ops) a.tmps) = Region.wanted o (yielded ops a.tmps) := by
    unfold Region.wanted varOp
    cases o.guard with
    | none => rfl
    | some g =>
     obtain ⟨j, want⟩ := g
     simp only [Option.map_some, hy]
   rw [hw] at h
   by_cases hz : Region.wanted o (yielded ops a.tmps) = true
   ·rw [if_pos hz] at h ⊢
    rcases h with h | h
    ·refine .inl ?_
     have h2 : o.wp P a w (wpOps P (varOps p q x y ops) Q (is.map (swq p q))) Q := h
     exact Oper.wp_mono (fun a w h => wpOps_var hp hq is a w h) h2
    ·exact .inr h
   ·rw [if_neg hz] at h ⊢
    exact wpOps_var hp hq is _ w h
def bef (x y : Nat) : List Nat → Prop
 | [] => True
 | k :: r => k = x ∨ (k ≠ y ∧ bef x y r)
theorem bef_or {x y : Nat} (h : x ≠ y) : ∀ is : List Nat, bef x y is ∨ bef y x is
 | [] => .inl trivial
 | k :: r => by
  by_cases h1 : k = x
  ·exact .inl (.inl h1)
  ·by_cases h2 : k = y
   ·exact .inr (.inl h2)
   ·rcases bef_or h r with h3 | h3
    ·exact .inl (.inr ⟨h2, h3⟩)
    ·exact .inr (.inr ⟨h1, h3⟩)
theorem runs_var {p q x y : Nat} (hxy : x ≠ y) {ops : Array Oper} (hp : p < ops.size) (hq : q < ops.size) {listed : Array Bool} {is : List Nat} (h : Runs ops listed is) :
  ∀ listed' : Array Bool, listed.size = ops.size → listed'.size = ops.size → (∀ k, k < ops.size → doneB listed' (swq p q k) = doneB listed k) → (doneB listed x = true ∨ bef x y is) → Runs (varOps p q x y ops) listed' (is.map (swq p q)) := by
 have down : ∀ (listed listed' : Array Bool), listed.size = ops.size → listed'.size = ops.size → (∀ k, k < ops.size → doneB listed' (swq p q k) = doneB listed k) → ∀ k, swq p q k ∈ Region.ready .any (varOps p q x y ops) listed' → k ∈ Region.ready .any ops listed := by
  intro listed listed' hs hs' hd k hk
  rw [mem_ready] at hk ⊢
  obtain ⟨h1, o', ho', h2⟩ := hk
  cases ho : ops[k]? with
  | none => rw [varOps_none hp hq ho] at ho'; cases ho'
  | some o =>
   rw [varOps_at hp hq ho] at ho'
   cases ho'
   have hkl : k < ops.size := (Array.getElem?_eq_some_iff.1 ho).1
   have hkl2 : swq p q k < ops.size := (swq_lt hp hq).2 hkl
   refine ⟨?_, o, rfl, fun e he hb => ?_⟩
   ·have := hd k hkl
    unfold doneB at this
    simp [hs, hs', hkl, hkl2] at this h1 ⊢
    rw [← this, h1]
   ·have h3 := h2 { on := swq p q e.on, ground := e.ground } (by
     simp only [varOp, Array.mem_append, Array.mem_map]
     exact .inl ⟨e, he, rfl⟩) hb
    by_cases hel : e.on < ops.size
    ·have := hd e.on hel
     unfold doneB at this
     rw [← this]; exact h3
    ·have hel2 : ¬ swq p q e.on < ops.size := fun h => hel ((swq_lt hp hq).1 h)
     simp [hs', hel2] at h3
 induction h with
 | nil h0 =>
  intro listed' hs hs' hd _
  refine .nil ?_
  cases hr : Region.ready .any (varOps p q x y ops) listed' with
  | nil => rfl
  | cons i r =>
   have hi : swq p q (swq p q i) ∈ Region.ready .any (varOps p q x y ops) listed' := by rw [swq_swq, hr]; exact List.mem_cons_self
   have := down _ _ hs hs' hd _ hi
   rw [h0] at this; cases this
 | cons hm hr ih =>
  rename_i listed i is
  intro listed' hs hs' hd hb
  have hm' := mem_ready.1 hm
  obtain ⟨h1, o, ho, h2⟩ := hm'
  have hkl : i < ops.size := (Array.getElem?_eq_some_iff.1 ho).1
  have hkl2 : swq p q i < ops.size := (swq_lt hp hq).2 hkl
  refine .cons (mem_ready.2 ⟨?_, _, varOps_at hp hq ho, fun e he hbd => ?_⟩) (ih _ (by simpa using hs) (by simpa using hs') (fun k hk => ?_) ?_)
  ·have := hd i hkl
   unfold doneB at this
   simp [hs, hs', hkl, hkl2] at this h1 ⊢
   rw [this, h1]
  ·simp only [varOp, Array.mem_append, Array.mem_map] at he
   rcases he with ⟨e0, he0, rfl⟩ | he
   ·have h3 := h2 e0 he0 hbd
    by_cases hel : e0.on < ops.size
    ·have := hd e0.on hel
     unfold doneB at this
     rw [this]; exact h3
    ·simp [hs, hel] at h3
   ·by_cases hiy : i = y
    ·rw [if_pos hiy] at he
     simp at he
     subst he
     have hx : doneB listed x = true := by
      rcases hb with hb | hb
      ·exact hb
      ·rcases hb with hb | hb
       ·exact absurd (hb.symm.trans hiy) hxy
       ·exact absurd hiy hb.1
     have hxl : x < ops.size := by
      unfold doneB at hx
      rcases Nat.lt_or_ge x listed.size with h | h
      ·omega
      ·simp [Array.getElem?_eq_none h] at hx
     have := hd x hxl
     unfold doneB at this hx
     simp only
     rw [this]; exact hx
    ·rw [if_neg hiy] at he; simp at he
  ·unfold doneB
   by_cases hki : k = i
   ·subst hki
    simp [hs, hs', hkl, hkl2]
   ·have : swq p q k ≠ swq p q i := fun e => hki (by rw [← swq_swq p q k, e, swq_swq])
    rw [getD_set_ne false (Ne.symm hki), getD_set_ne false (Ne.symm this)]
    exact hd k hk
  ·rcases hb with hb | hb
   ·exact .inl (getD_set_true hb)
   ·rcases hb with hb | hb
    ·refine .inl ?_
     subst hb
     unfold doneB
     simp [hs, hkl]
    ·exact .inr hb.2
theorem draw_runs {C : Ctx} {nm : Nat → Nat} {ops : Array Oper} {l : List (Oper × Tr1)} {S0 : AState} (hl : l.map (·.1) = ops.toList) (hdid : DidAll C.P C.N nm ops.toList l S0) (hp : pairsOk ops.toList (befs [] ops.toList) 0 [] l = true)
  (hlow : ∀ (k : Nat) (o : Oper) (e : Edge), ops[k]? = some o → e ∈ o.after → Region.binds .any e = true → e.on < k) {Q : Exit → Act → World → Prop}
  (hQ : ∀ E' M' a' w', Sim C E' M' (stE (fun _ => true) 0 l S0) a' w' → Q .normal a' w') {listed : Array Bool} {is : List Nat} (hr : Runs ops listed is) :
  ∀ (E : Env) (M : Mem) (a : Act) (w : World), listed.size = ops.size →
   (∀ k o e, ops[k]? = some o → doneB listed k = true → e ∈ o.after → Region.binds .any e = true → doneB listed e.on = true) → Sim C E M (stE (doneB listed) 0 l S0) a w →
   wpOps C.P ops Q is a w := by
 have hlen : l.length = ops.size := by
  have := congrArg List.length hl; simpa using this
 induction hr with
 | nil hr =>
  rename_i listed
  intro E M a w hsz hdown hs
  have := draw_any (C := C) (nm := nm) hl hdid hp hlow hQ 0 listed E M a w hsz
   (by
     refine Nat.le_of_eq (List.countP_eq_zero.2 fun b hb => ?_)
     obtain ⟨i, hi, rfl⟩ := List.getElem_of_mem hb
     cases hbi : listed.toList[i] with
     | true => simp
     | false =>
      exfalso
      have hall : ∀ k, k < ops.size → doneB listed k = true := by
       intro k
       induction k using Nat.strongRecOn with
       | _ k ih =>
        intro hk
        cases hd : doneB listed k with
        | true => rfl
        | false =>
         have ho : ops[k]? = some ops[k] := Array.getElem?_eq_getElem hk
         have : k ∈ Region.ready .any ops listed := by
          rw [mem_ready]
          refine ⟨?_, ops[k], ho, fun e he hb => ih e.on (hlow k _ e ho he hb) (Nat.lt_trans (hlow k _ e ho he hb) hk)⟩
          unfold doneB at hd
          have hkl : k < listed.size := by omega
          simp [hkl] at hd ⊢; exact hd
         rw [hr] at this; cases this
      have hil : i < listed.size := by simpa using hi
      have := hall i (by omega)
      unfold doneB at this
      simp [hil] at this hbi
      rw [hbi] at this; cases this) hdown hs
  exact this.2
 | cons hm hr ih =>
  rename_i listed i is
  intro E M a w hsz hdown hs
  obtain ⟨h0, o, ho, hready⟩ := mem_ready.1 hm
  have hio : i < ops.size := (Array.getElem?_eq_some_iff.1 ho).1
  have hil : i < listed.size := by omega
  obtain ⟨x, hx⟩ : ∃ x, l[i]? = some x := ⟨l[i]'(by omega), List.getElem?_eq_getElem (by omega)⟩
  have hxo : x.1 = o := by
   have : (l.map (·.1))[i]? = some x.1 := by rw [List.getElem?_map, hx]; rfl
   rw [hl] at this
   simp [ho] at this; exact this.symm
  have hni : doneB listed i = false := by
   unfold doneB; simp [hil] at h0 ⊢; exact h0
  rw [wpOps_cons]
  refine draw_step hl hdid hp hsz hdown hx hni (fun e he hb => hready e (by rw [← hxo]; exact he) hb) hs fun E' M' a' w' hs' => ?_
  refine ih E' M' a' w' (by simpa using hsz) (fun k o' e hk hd he hb => ?_) hs'
  unfold doneB at hd ⊢
  by_cases hki : k = i
  ·subst hki
   rw [ho] at hk; cases hk
   exact getD_set_true (hready e he hb)
  ·rw [getD_set_ne false (Ne.symm hki)] at hd
   exact getD_set_true (hdown k o' e hk hd he hb)
inductive PT where
 | leaf
 | node (i j : Nat) (a b : PT)
def PT.ok (C : Ctx) (nm : Nat → Nat) (S : AState) (Q : AState → Prop) : PT → Array Oper → Prop
 | .leaf, ops => aopsT C.P C.N nm ops.toList ops.toList S [] (fun S' tr => drawOk ops.toList tr = true ∧ Q S')
 | .node i j a b, ops => (i ≠ j ∧ i < ops.size ∧ j < ops.size) ∧ PT.ok C nm S Q a (varOps i i i j ops) ∧ PT.ok C nm S Q b (varOps i j j i ops)
theorem PT.runs {C : Ctx} {nm : Nat → Nat} {S : AState} {Q : AState → Prop} {Q' : Exit → Act → World → Prop} {E : Env} {M : Mem} {a : Act} {w : World} (hs : Sim C E M S a w)
  (hQ : ∀ S' E' M' a' w', Q S' → Sim C E' M' S' a' w' → Q' .normal a' w') : ∀ (t : PT) (ops : Array Oper) (is : List Nat), PT.ok C nm S Q t ops → Runs ops (Array.replicate ops.size false) is → wpOps C.P ops Q' is a w
 | .leaf, ops, is, h, hr => by
  obtain ⟨l, h1, h2, h3, h4⟩ := aopsT_ex h
  have hz : ops.toList.zip (l.map (·.2)) = l := by
   rw [← h1]
   have : ∀ l : List (Oper × Tr1), (l.map (·.1)).zip (l.map (·.2)) = l := by
    intro l
    induction l with
    | nil => rfl
    | cons x r ih => simp [ih]
   exact this l
  simp only [List.nil_append, drawOk, Bool.and_eq_true, hz] at h3
  obtain ⟨hp', hlow⟩ := h3
  have hd0 : ∀ k, doneB (Array.replicate ops.size false) k = false := by
   intro k
   unfold doneB
   by_cases hk : k < ops.size
   ·simp [hk]
   ·simp [hk]
  refine draw_runs (C := C) (nm := nm) (l := l) (S0 := S) h1 h2 hp' (fun k o e ho he hb => ?_) (fun E' M' a' w' hs' => hQ _ E' M' a' w' h4 hs')
   hr E M a _ (by simp) (fun k o e _ hd => ?_) ?_
  ·rw [List.all_eq_true] at hlow
   have := hlow (o, k) (List.mk_mem_zipIdx_iff_getElem?.2 (by simpa using ho))
   simp only at this
   rw [Array.all_eq_true_iff_forall_mem] at this
   have := this e he
   simp only [hb, Bool.not_true, Bool.false_or] at this
   exact of_eq_true (by rw [← Nat.blt_eq, this]; simp)
  ·rw [hd0] at hd; cases hd
  ·have none : ∀ (l : List (Oper × Tr1)) (i : Nat) (S : AState), stE (doneB (Array.replicate ops.size false)) i l S = S := by
    intro l
    induction l with
    | nil => intro i S; rfl
    | cons x r ih =>
     intro i S; obtain ⟨o, t⟩ := x
     simp only [stE, hd0]
     exact ih _ _
   rw [none]
   exact hs
 | .node i j ta tb, ops, is, h, hr => by
  obtain ⟨⟨hij, hi, hj⟩, hA, hB⟩ := h
  have hd0 : ∀ n k, doneB (Array.replicate n false) k = false := by
   intro n k
   unfold doneB
   by_cases hk : k < n
   ·simp [hk]
   ·simp [hk]
  rcases bef_or hij is with hb | hb
  ·refine wpOps_var (p := i) (q := i) (x := i) (y := j) hi hi _ _ _ (PT.runs hs hQ ta _ _ hA ?_)
   exact runs_var (p := i) (q := i) (x := i) (y := j) hij hi hi hr _ (by simp) (by simp [varOps_size]) (fun k _ => by rw [hd0, hd0]) (.inr hb)
  ·refine wpOps_var (p := i) (q := j) (x := j) (y := i) hi hj _ _ _ (PT.runs hs hQ tb _ _ hB ?_)
   exact runs_var (p := i) (q := j) (x := j) (y := i) (Ne.symm hij) hi hj hr _ (by simp) (by simp [varOps_size]) (fun k _ => by rw [hd0, hd0]) (.inr hb)
theorem AWp.drawT {C : Ctx} {id : Nat} {ops : Array Oper} {S : AState} {Q : Exit → AState → Prop} (nm : Nat → Nat) (t : PT) (hm : C.P.follows .mixedOrders = true)
  (h : PT.ok C nm S (Q .normal) t ops) : AWp C (.region id ops true) S Q := fun E M a w hs => by
 refine wp_region_draw fun tp => ?_
 simp only [Region.schedule, hm, Bool.true_or, if_true]
 have hr : Runs ops (Array.replicate ops.size false) (Region.linearise .any ops tp) := runs_linearise ops ops.size tp _ (Nat.le_trans List.countP_le_length (by simp))
 exact PT.runs (Q' := fun e a' w' => ∃ S' E' M', Q e S' ∧ Sim C E' M' S' a' w') hs.drew (fun S' E' M' a' w' hq hs' => ⟨S', E', M', hq, hs'⟩) t ops _ h hr
end
end Go.Awp
end
section
namespace Go.Awp
variable [Inhabited GMem]
section
variable {P : Program} {N : Nat} {C : Ctx} {nm : Nat → Nat} {S : AState} {Q : Exit → AState → Prop}
end
theorem FnOk.at {P : Program} {f : FuncId} {args : List H} {r : H} (h : FnOk P f args [] r []) (hr : H.plain r = true) : FnAt P f args [] r [] := by
 refine ⟨h.1, fun E M w vs hgm hm ho hv => (h.2 E M w vs hgm hm ho hv).mono ?_⟩
 rintro e w' ⟨v, E', M', rfl, hp⟩
 refine ⟨v, E, M', rfl, { hp with rep := hp.rep.mono (Mem.le_refl _) (fun n hn => by rw [H.plain_has hr] at hn; cases hn), owns := ⟨fun n o h => by simp [gt] at h, fun n m o o' b _ h => by simp [gt] at h⟩, home := fun n o b h => by simp [gt] at h, env := fun _ _ => rfl }, fun _ _ => rfl⟩
theorem acall_pure {P : Program} {f : FuncId} {args : List H} {ω : Nat → Option Own} {k : Eff → Prop} {r : H} (h : FnOk P f args [] r []) (hr : H.plain r = true) (hk : k { val := r }) : ACall P f args ω k :=
 ⟨[], r, [], h.at hr, by simp, hk⟩
theorem Ent.nilvec {S : AState} {t n e sz : Nat} (ht : gt S.tmps t = some (.d (.v (.slice none 0 0)))) (hf : S.fresh n = true) (hg : n < given) :
  Ent S { tmps := (t, .vh n 0) :: S.tmps, own := (n, some (.vec e sz [])) :: S.own } := fun C E M a w hs => by
 have h1 := hs.own_new (E' := fun m => if m = n then .slice none 0 0 else E m) (d := n) (o' := .vec e sz []) (w' := w) ⟨rfl, rfl, rfl, Nat.le_refl _, fun _ _ _ => rfl⟩ (fun m hm => by simp [hm]) hf hg
  (fun b hb => by simp [Own.foot, blockOf] at hb) ⟨[], by simpa using World.ownsRow_nil w 0 e sz, by simp, by simp, fun b hb => by simp [blockOf] at hb⟩
 refine ⟨_, M, { h1 with tmps := fun t' x hx => ?_ }⟩
 rw [gt_cons] at hx
 by_cases htt : t = t'
 ·subst htt
  simp at hx; subst hx
  obtain ⟨v, hv, hr⟩ := hs.tmps t _ ht
  refine ⟨v, hv, ?_⟩
  rw [hr.dv]
  exact .vh n 0 0 0 none (by simp) (Nat.le_refl _)
 ·rw [if_neg htt] at hx
  exact h1.tmps t' x hx
theorem Ent.nilcell {S : AState} {b n e sz i : Nat} {oty : Option TypeId} {cells : List H} (ho : S.own? b = some (.box oty cells)) (hi : cells[i]? = some (.d (.v (.slice none 0 0)))) (hf : S.fresh n = true) (hg : n < given) :
  Ent S { tmps := S.tmps, own := (b, some (.box oty (cells.set i (.vh n 0)))) :: (n, some (.vec e sz [])) :: S.own } := fun C E M a w hs => by
 have h1 := hs.own_new (E' := fun m => if m = n then .slice none 0 0 else E m) (d := n) (o' := .vec e sz []) (w' := w) ⟨rfl, rfl, rfl, Nat.le_refl _, fun _ _ _ => rfl⟩ (fun m hm => by simp [hm]) hf hg
  (fun b hb => by simp [Own.foot, blockOf] at hb) ⟨[], by simpa using World.ownsRow_nil w 0 e sz, by simp, by simp, fun b hb => by simp [blockOf] at hb⟩
 have hbn : b ≠ n := by
  rintro rfl
  unfold AState.fresh at hf
  simp [ho] at hf
 have hown : ∀ m o, AState.own? { tmps := S.tmps, own := (b, some (.box oty (cells.set i (.vh n 0)))) :: (n, some (.vec e sz [])) :: S.own } m = some o →
   (m = b ∧ o = .box oty (cells.set i (.vh n 0))) ∨ (m ≠ b ∧ AState.own? { tmps := S.tmps, own := (n, some (.vec e sz [])) :: S.own } m = some o) := by
  intro m o hm
  unfold AState.own? at hm ⊢
  rw [gt_cons] at hm
  by_cases hmb : b = m
  ·rw [if_pos hmb] at hm
   left; exact ⟨hmb.symm, by simpa using hm.symm⟩
  ·rw [if_neg hmb] at hm
   right; exact ⟨fun e => hmb e.symm, hm⟩
 have hb1 : AState.own? { tmps := S.tmps, own := (n, some (.vec e sz [])) :: S.own } b = some (.box oty cells) := by
  unfold AState.own? at ho ⊢
  rw [gt_cons, if_neg (fun e => hbn e.symm)]; exact ho
 have hany : ∀ m o, AState.own? { tmps := S.tmps, own := (b, some (.box oty (cells.set i (.vh n 0)))) :: (n, some (.vec e sz [])) :: S.own } m = some o → ∃ o', AState.own? { tmps := S.tmps, own := (n, some (.vec e sz [])) :: S.own } m = some o' ∧ ∀ v, o.foot w v = o'.foot w v := by
  intro m o hm
  rcases hown m o hm with ⟨rfl, rfl⟩ | ⟨_, h⟩
  ·exact ⟨_, hb1, fun _ => rfl⟩
  ·exact ⟨_, h, fun _ => rfl⟩
 refine ⟨_, M, { h1 with own := fun m o hm => ?_, apart := fun m m' o o' bb hne hm hm' hbb hbb' => ?_, home := fun m o bb hm hbb => ?_ }⟩
 ·rcases hown m o hm with ⟨rfl, rfl⟩ | ⟨_, h⟩
  ·obtain ⟨blk, cs, ty, k1, k2, k3, k4, k5⟩ := h1.own m _ hb1
   refine ⟨blk, cs, ty, k1, k2, by rw [List.length_set]; exact k3, fun j c x hc hx => ?_, k5⟩
   by_cases hij : i = j
   ·subst hij
    have hlt : i < cells.length := (List.getElem?_eq_some_iff.1 hi).1
    rw [List.getElem?_set_self hlt] at hx
    simp at hx; subst hx
    have := k4 i c _ hc hi
    rw [this.dv]
    exact .vh n 0 0 0 none (by simp) (Nat.le_refl _)
   ·rw [List.getElem?_set_ne hij] at hx
    exact k4 j c x hc hx
  ·exact h1.own m o h
 ·obtain ⟨q, hq, e⟩ := hany m o hm
  obtain ⟨q', hq', e'⟩ := hany m' o' hm'
  rw [e] at hbb
  rw [e'] at hbb'
  exact h1.apart m m' q q' bb hne hq hq' hbb hbb'
 ·obtain ⟨q, hq, e⟩ := hany m o hm
  rw [e] at hbb
  exact h1.home m q bb hq hbb
mutual
def H.frz (n sz : Nat) (rows : List (List D)) : H → H
 | .vh m len => if m = n ∧ len = rows.length then .d (.sl sz rows) else .vh m len
 | .agg cs => mkAgg (H.frzL n sz rows cs)
 | .tup vs => .tup (H.frzL n sz rows vs)
 | x => x
def H.frzL (n sz : Nat) (rows : List (List D)) : List H → List H
 | [] => []
 | x :: r => H.frz n sz rows x :: H.frzL n sz rows r
end
theorem H.frzL_len (n sz : Nat) (rows : List (List D)) : ∀ l : List H, (H.frzL n sz rows l).length = l.length
 | [] => rfl
 | x :: r => by simp [H.frzL, H.frzL_len n sz rows r]
theorem H.frzL_get (n sz : Nat) (rows : List (List D)) : ∀ (l : List H) (i : Nat), (H.frzL n sz rows l)[i]? = (l[i]?).map (H.frz n sz rows)
 | [], i => by simp [H.frzL]
 | x :: r, 0 => by simp [H.frzL]
 | x :: r, i + 1 => by simpa [H.frzL] using H.frzL_get n sz rows r i
def Own.frz (n sz : Nat) (rows : List (List D)) : Own → Own
 | .box o cells => .box o (H.frzL n sz rows cells)
 | o => o
theorem Own.frz_foot (n sz : Nat) (rows : List (List D)) (w : World) (v : Value) (o : Own) : (Own.frz n sz rows o).foot w v = o.foot w v := by
 cases o <;> rfl
def AState.frz (S : AState) (n sz : Nat) (rows : List (List D)) : AState :=
 { tmps := S.tmps.map fun p => (p.1, H.frz n sz rows p.2), own := (n, none) :: S.own.map fun p => (p.1, p.2.map (Own.frz n sz rows)) }
theorem gt_map {α β : Type} (f : α → β) : ∀ (l : List (Nat × α)) (n : Nat), gt (l.map fun p => (p.1, f p.2)) n = (gt l n).map f
 | [], n => rfl
 | (k, x) :: r, n => by
  simp only [List.map_cons, gt_cons]
  by_cases h : k = n
  ·simp [h]
  ·rw [if_neg h, if_neg h]; exact gt_map f r n
theorem HRep.frz {E : Env} {M M' : Mem} (hM : M.le M') {n sz : Nat} {rows : List (List D)} (hn : ∀ v, HRep E M v (.vh n rows.length) → DRep M' v (.sl sz rows)) {v : Value} {x : H} (h : HRep E M v x) : HRep E M' v (H.frz n sz rows x) := by
 induction h with
 | d h => exact .d (h.mono hM)
 | junk v => exact .junk v
 | bp n off b h => exact .bp n off b h
 | vh m len l c a h hl =>
  simp only [H.frz]
  split
  ·rename_i hc
   obtain ⟨rfl, rfl⟩ := hc
   exact .d (hn _ (.vh m _ l c a h hl))
  ·exact .vh m len l c a h hl
 | ep n sz i off b l c h hi => exact .ep n sz i off b l c h hi
 | mp n r h => exact .mp n r h
 | np0 n => exact .np0 n
 | np1 n b h => exact .np1 n b h
 | sd n p h => exact .sd n p h
 | agg cs l hl h ih =>
  refine HRep.mk_agg (by rw [H.frzL_len]; exact hl) fun i c y hc hy => ?_
  rw [H.frzL_get] at hy
  cases hz : l[i]? with
  | none => rw [hz] at hy; cases hy
  | some z => rw [hz] at hy; simp at hy; subst hy; exact ih i c z hc hz
 | tup cs l hl h ih =>
  refine .tup cs _ (by rw [H.frzL_len]; exact hl) fun i c y hc hy => ?_
  rw [H.frzL_get] at hy
  cases hz : l[i]? with
  | none => rw [hz] at hy; cases hy
  | some z => rw [hz] at hy; simp at hy; subst hy; exact ih i c z hc hz
 | fn f first captured l l' hl hl' h h' ih ih' => exact .fn f first captured l l' hl hl' (fun i c x hc hx => (h i c x hc hx).le hM) (fun i c x hc hx => (h' i c x hc hx).le hM)
theorem Ent.freeze {S : AState} {n e sz : Nat} {rows : List (List D)} (hn : S.own? n = some (.vec e sz rows)) : Ent S (S.frz n sz rows) := fun C E M a w hs => by
 obtain ⟨xs, h1, h2, h3, h4⟩ := hs.own n _ hn
 let M' : Mem := fun b k => match M b k with
  | some v => some v
  | none => if blockOf (E n) = some b ∧ k < rows.length * sz then xs[k]? else none
 have hM : M.le M' := fun b k v hv => by simp [M', hv]
 have hcell : ∀ b k v, blockOf (E n) = some b → xs[k]? = some v → w.cell? ⟨b, k, none⟩ = some v := by
  intro b k v hb hv
  rcases h1.2 with ⟨hnil, _⟩ | ⟨g, cap, cur, hE, _, hg, _, _, _, htake⟩
  ·rw [hnil] at hb; simp [blockOf] at hb
  ·rw [hE] at hb; simp [blockOf] at hb; subst hb
   rw [cell_of_row w g k cur e (0, 0) hg]
   rw [← htake, List.getElem?_take] at hv
   split at hv
   ·simpa using hv
   ·cases hv
 have hrep : ∀ v, HRep E M v (.vh n rows.length) → DRep M' v (.sl sz rows) := by
  intro v hv
  cases hv with
  | vh n len l c a h hl =>
   rcases h1.2 with ⟨hnil, hz⟩ | ⟨g, cap, cur, hE, _, hg, hnc, _, _, htake⟩
   ·rw [h] at hnil
    simp only [Value.slice.injEq] at hnil
    obtain ⟨rfl, rfl, rfl⟩ := hnil
    have hz' : rows = [] := List.eq_nil_of_length_eq_zero hz
    subst hz'
    exact .slnil sz
   ·rw [h] at hE
    simp only [Value.slice.injEq] at hE
    obtain ⟨rfl, rfl, rfl⟩ := hE
    refine .sl g 0 _ _ sz rows (fun k => xs.getD k undef) rfl hnc h2 (fun k hk => ?_) fun i j r x hr hx => ?_
    ·have hxk : k < xs.length := by rw [h1.1]; exact hk
     have hMk : M g k = none := h4 g (by rw [h]; rfl) k
     simp only [M', Nat.zero_add, hMk]
     rw [if_pos ⟨by rw [h]; rfl, hk⟩, List.getElem?_eq_getElem hxk]
     simp [hxk]
    ·have hlr := h2 r (List.mem_of_getElem? hr)
     have hir : i < rows.length := (List.getElem?_eq_some_iff.1 hr).1
     have hj : j < sz := by have := (List.getElem?_eq_some_iff.1 hx).1; omega
     have hmul : (i + 1) * sz ≤ rows.length * sz := Nat.mul_le_mul_right _ hir
     rw [Nat.succ_mul] at hmul
     have hxk : i * sz + j < xs.length := by rw [h1.1]; omega
     have := h3 i j r xs[i * sz + j] x hr hx (List.getElem?_eq_getElem hxk)
     have hg' : xs.getD (i * sz + j) undef = xs[i * sz + j] := by simp [hxk]
     rw [hg']
     exact this.mono hM
 have hown : ∀ m o, (S.frz n sz rows).own? m = some o → m ≠ n ∧ ∃ o0, S.own? m = some o0 ∧ o = Own.frz n sz rows o0 := by
  intro m o ho
  simp only [AState.frz, AState.own?, gt_cons] at ho
  by_cases hm : n = m
  ·rw [if_pos hm] at ho; simp at ho
  ·rw [if_neg hm, gt_map (fun x : Option Own => x.map (Own.frz n sz rows))] at ho
   refine ⟨fun e => hm e.symm, ?_⟩
   cases hg : gt S.own m with
   | none => rw [hg] at ho; simp at ho
   | some oo =>
    rw [hg] at ho
    cases oo with
    | none => simp at ho
    | some o0 => simp at ho; exact ⟨o0, by simp [AState.own?, hg], ho.symm⟩
 have hM'none : ∀ m o, m ≠ n → S.own? m = some o → ∀ b, o.foot w (E m) b → ∀ k, M' b k = none := by
  intro m o hm ho b hb k
  have h0 := ((hs.own m o ho).block hb).2 k
  simp only [M', h0]
  rw [if_neg]
  rintro ⟨hb', _⟩
  exact hs.apart m n o _ b hm ho hn hb hb'
 refine ⟨E, M', { size := hs.size, defers := hs.defers, tmps := ?_, mem := ?_, own := ?_, apart := ?_, home := ?_, m0 := Mem.le_trans hs.m0 hM, mnew := ?_, frame := hs.frame, grows := hs.grows, os := hs.os, tape := hs.tape, output := hs.output, env := hs.env }⟩
 ·intro t x hx
  simp only [AState.frz, gt_map] at hx
  cases hg : gt S.tmps t with
  | none => rw [hg] at hx; cases hx
  | some y =>
   rw [hg] at hx; simp at hx; subst hx
   obtain ⟨v, hv, hr⟩ := hs.tmps t y hg
   exact ⟨v, hv, hr.frz hM hrep⟩
 ·intro b k v hv
  simp only [M'] at hv
  cases h0 : M b k with
  | some u => rw [h0] at hv; simp at hv; subst hv; exact hs.mem b k u h0
  | none =>
   rw [h0] at hv
   simp only at hv
   split at hv
   ·rename_i hc; exact hcell b k v hc.1 hv
   ·cases hv
 ·intro m o ho
  obtain ⟨hm, o0, ho0, rfl⟩ := hown m o ho
  have hk := hs.own m o0 ho0
  cases o0 with
  | vec e' sz' rows' => exact hk.keep rfl (fun _ _ => rfl) (fun _ _ => rfl) hM (hM'none m _ hm ho0)
  | map es => exact hk.keep rfl (fun _ _ => rfl) (fun _ _ => rfl) hM (hM'none m _ hm ho0)
  | iter s pos => exact hk.keep rfl (fun _ _ => rfl) (fun _ _ => rfl) hM (hM'none m _ hm ho0)
  | dvec e' sz' rows' => exact hk.keep rfl (fun _ _ => rfl) (fun _ _ => rfl) hM (hM'none m _ hm ho0)
  | miter m2 es rest cur => exact hk.keep rfl (fun _ _ => rfl) (fun _ _ => rfl) hM (hM'none m _ hm ho0)
  | box oty cells =>
   obtain ⟨b, cs, ty, k1, k2, k3, k4, k5, k6⟩ := hk
   refine ⟨b, cs, ty, k1, k2, by rw [H.frzL_len]; exact k3, fun i c y hc hy => ?_, hM'none m _ hm ho0 b (by rw [k1]; rfl), k6⟩
   rw [H.frzL_get] at hy
   cases hz : cells[i]? with
   | none => rw [hz] at hy; cases hy
   | some z => rw [hz] at hy; simp at hy; subst hy; exact (k4 i c z hc hz).frz hM hrep
 ·intro m m' o o' b hne ho ho' hb hb'
  obtain ⟨_, o0, h0, e0⟩ := hown m o ho
  obtain ⟨_, o1, h1', e1⟩ := hown m' o' ho'
  rw [e0, Own.frz_foot] at hb
  rw [e1, Own.frz_foot] at hb'
  exact hs.apart m m' o0 o1 b hne h0 h1' hb hb'
 ·intro m o b ho hb
  obtain ⟨_, o0, h0, e0⟩ := hown m o ho
  rw [e0, Own.frz_foot] at hb
  exact hs.home m o0 b h0 hb
 ·intro b k v hv
  simp only [M'] at hv
  cases h0 : M b k with
  | some u => rw [h0] at hv; simp at hv; subst hv; exact hs.mnew b k u h0
  | none =>
   rw [h0] at hv
   simp only at hv
   split at hv
   ·rename_i hc; exact .inr (hs.home n _ b hn hc.1)
   ·cases hv
structure Dummy {α : Sort _} (a : α) : Type where
section
variable {P : Program} {N : Nat} {nm : Nat → Nat} {all os : List Oper} {S : AState} {tr : List Tr1} {k : AState → Prop} {kt : AState → List Tr1 → Prop} {h : Dummy k} {ht : Dummy kt}
end
section
variable {P : Program} {N : Nat} {C : Ctx} {nm : Nat → Nat} {S : AState} {Q : Exit → AState → Prop}
end
end Go.Awp
end
section
namespace Go.Awp
variable [Inhabited GMem]
mutual
def H.ren (f : Nat → Nat) : H → H
 | .d x => .d x
 | .junk => .junk
 | .bp n o => .bp (f n) o
 | .vh n l => .vh (f n) l
 | .ep n s i o => .ep (f n) s i o
 | .mp n => .mp (f n)
 | .np n b => .np (f n) b
 | .sd n => .sd (f n)
 | .agg cs => .agg (H.renL f cs)
 | .tup vs => .tup (H.renL f vs)
 | .fn g a b => .fn g (H.renL f a) (H.renL f b)
def H.renL (f : Nat → Nat) : List H → List H
 | [] => []
 | x :: r => H.ren f x :: H.renL f r
end
theorem H.renL_len (f : Nat → Nat) : ∀ l : List H, (H.renL f l).length = l.length
 | [] => rfl
 | x :: r => by simp [H.renL, H.renL_len f r]
theorem H.renL_get (f : Nat → Nat) : ∀ (l : List H) (i : Nat), (H.renL f l)[i]? = (l[i]?).map (H.ren f)
 | [], i => by simp [H.renL]
 | x :: r, 0 => by simp [H.renL]
 | x :: r, i + 1 => by simpa [H.renL] using H.renL_get f r i
theorem H.has_get {n : Nat} : ∀ {l : List H} {i : Nat} {x : H}, l[i]? = some x → H.has n x = true → H.hasL n l = true := by
 intro l i x hx hn
 cases hh : H.hasL n l with
 | true => rfl
 | false => rw [H.hasL_get hh hx] at hn; cases hn
theorem HRep.ren {E E' : Env} {M : Mem} {f : Nat → Nat} {v : Value} {x : H} (h : HRep E M v x) (hE : ∀ n, H.has n x = true → E' (f n) = E n) : HRep E' M v (x.ren f) := by
 induction h with
 | d h => exact .d h
 | junk v => exact .junk v
 | bp n off b h => exact .bp _ off b (by rw [hE n (by simp [H.has])]; exact h)
 | vh n len l c a h hl => exact .vh _ len l c a (by rw [hE n (by simp [H.has])]; exact h) hl
 | ep n sz i off b l c h hi => exact .ep _ sz i off b l c (by rw [hE n (by simp [H.has])]; exact h) hi
 | mp n r h => exact .mp _ r (by rw [hE n (by simp [H.has])]; exact h)
 | np0 n => exact .np0 _
 | np1 n b h => exact .np1 _ b (by rw [hE n (by simp [H.has])]; exact h)
 | sd n p h => exact .sd _ p (by rw [hE n (by simp [H.has])]; exact h)
 | agg cs l hl h ih =>
  refine .agg cs _ (by rw [H.renL_len]; exact hl) fun i c y hc hy => ?_
  rw [H.renL_get] at hy
  cases hz : l[i]? with
  | none => rw [hz] at hy; cases hy
  | some z => rw [hz] at hy; simp at hy; subst hy; exact ih i c z hc hz fun n hn => hE n (H.has_get hz hn)
 | tup cs l hl h ih =>
  refine .tup cs _ (by rw [H.renL_len]; exact hl) fun i c y hc hy => ?_
  rw [H.renL_get] at hy
  cases hz : l[i]? with
  | none => rw [hz] at hy; cases hy
  | some z => rw [hz] at hy; simp at hy; subst hy; exact ih i c z hc hz fun n hn => hE n (H.has_get hz hn)
 | fn g first captured l l' hl hl' h h' ih ih' =>
  refine .fn g first captured _ _ (by rw [H.renL_len]; exact hl) (by rw [H.renL_len]; exact hl') (fun i c y hc hy => ?_) (fun i c y hc hy => ?_)
  ·rw [H.renL_get] at hy
   cases hz : l[i]? with
   | none => rw [hz] at hy; cases hy
   | some z => rw [hz] at hy; simp at hy; subst hy; exact ih i c z hc hz fun n hn => hE n (by simp [H.has, H.has_get hz hn])
  ·rw [H.renL_get] at hy
   cases hz : l'[i]? with
   | none => rw [hz] at hy; cases hy
   | some z => rw [hz] at hy; simp at hy; subst hy; exact ih' i c z hc hz fun n hn => hE n (by simp [H.has, H.has_get hz hn])
theorem HRep.unren {E : Env} {M : Mem} {f : Nat → Nat} {v : Value} {x : H} (h : HRep E M v x) : ∀ {y : H}, x = y.ren f → HRep (fun n => E (f n)) M v y := by
 induction h with
 | d h => intro y hy; cases y <;> simp only [H.ren, reduceCtorEq] at hy; cases hy; exact .d h
 | junk v => intro y hy; cases y <;> simp only [H.ren, reduceCtorEq] at hy; exact .junk v
 | bp n off b h => intro y hy; cases y <;> simp only [H.ren, reduceCtorEq] at hy; cases hy; exact .bp _ _ b h
 | vh n len l c a h hl => intro y hy; cases y <;> simp only [H.ren, reduceCtorEq] at hy; cases hy; exact .vh _ _ l c a h hl
 | ep n sz i off b l c h hi => intro y hy; cases y <;> simp only [H.ren, reduceCtorEq] at hy; cases hy; exact .ep _ _ _ _ b l c h hi
 | mp n r h => intro y hy; cases y <;> simp only [H.ren, reduceCtorEq] at hy; cases hy; exact .mp _ r h
 | np0 n => intro y hy; cases y <;> simp only [H.ren, reduceCtorEq] at hy; cases hy; exact .np0 _
 | np1 n b h => intro y hy; cases y <;> simp only [H.ren, reduceCtorEq] at hy; cases hy; exact .np1 _ b h
 | sd n p h => intro y hy; cases y <;> simp only [H.ren, reduceCtorEq] at hy; cases hy; exact .sd _ p h
 | agg cs l hl h ih =>
  intro y hy
  cases y <;> simp only [H.ren, reduceCtorEq] at hy
  cases hy
  exact .agg cs _ (by rw [H.renL_len] at hl; exact hl) fun i c z hc hz => ih i c _ hc (by rw [H.renL_get, hz]; rfl) rfl
 | tup cs l hl h ih =>
  intro y hy
  cases y <;> simp only [H.ren, reduceCtorEq] at hy
  cases hy
  exact .tup cs _ (by rw [H.renL_len] at hl; exact hl) fun i c z hc hz => ih i c _ hc (by rw [H.renL_get, hz]; rfl) rfl
 | fn g first captured l l' hl hl' h h' ih ih' =>
  intro y hy
  cases y <;> simp only [H.ren, reduceCtorEq] at hy
  cases hy
  exact .fn _ first captured _ _ (by rw [H.renL_len] at hl; exact hl) (by rw [H.renL_len] at hl'; exact hl') (fun i c z hc hz => ih i c _ hc (by rw [H.renL_get, hz]; rfl) rfl)
   (fun i c z hc hz => ih' i c _ hc (by rw [H.renL_get, hz]; rfl) rfl)
def Own.ren (f : Nat → Nat) : Own → Own
 | .box o cells => .box o (H.renL f cells)
 | .vec e sz rows => .vec e sz rows
 | .map es => .map es
 | .iter s pos => .iter s pos
 | .dvec e sz rows => .dvec e sz rows
 | .miter m es rest cur => .miter (f m) es rest cur
theorem Own.ren_foot (f : Nat → Nat) (w : World) (v : Value) (o : Own) : (o.ren f).foot w v = o.foot w v := by
 cases o <;> rfl
theorem OwnOk.ren {E E' : Env} {M : Mem} {w : World} {f : Nat → Nat} {n : Nat} {o : Own} (h : OwnOk E M w n o) (hn : E' (f n) = E n) (hE : ∀ m, Own.has m o = true → E' (f m) = E m) : OwnOk E' M w (f n) (o.ren f) := by
 cases o with
 | box oty cells =>
  obtain ⟨b, cs, ty, h1, h2, h3, h4, h5⟩ := h
  refine ⟨b, cs, ty, by rw [hn]; exact h1, h2, by rw [H.renL_len]; exact h3, fun i c y hc hy => ?_, h5⟩
  rw [H.renL_get] at hy
  cases hz : cells[i]? with
  | none => rw [hz] at hy; cases hy
  | some z => rw [hz] at hy; simp at hy; subst hy; exact (h4 i c z hc hz).ren fun m hm => hE m (H.has_get hz hm)
 | vec e sz rows =>
  obtain ⟨xs, h1, h2, h3, h4⟩ := h
  exact ⟨xs, by rw [hn]; exact h1, h2, h3, by rw [hn]; exact h4⟩
 | map es =>
  obtain ⟨b, es', clock, h1, h2⟩ := h
  exact ⟨b, es', clock, by rw [hn]; exact h1, h2⟩
 | iter s pos =>
  obtain ⟨b, h1, h2⟩ := h
  exact ⟨b, by rw [hn]; exact h1, h2⟩
 | dvec e sz rows =>
  obtain ⟨B, h1, h2⟩ := h
  exact ⟨B, by rw [hn]; exact h1, h2⟩
 | miter m es rest cur =>
  obtain ⟨r, b, es', clock, since, seen, last, h1, h2, h3⟩ := h
  exact ⟨r, b, es', clock, since, seen, last, by rw [hn]; exact h1, by rw [hE m (Nat.beq_refl m)]; exact h2, h3⟩
theorem OwnOk.unren {E : Env} {M : Mem} {w : World} {f : Nat → Nat} {n : Nat} {o : Own} (h : OwnOk E M w (f n) (o.ren f)) : OwnOk (fun n => E (f n)) M w n o := by
 cases o with
 | box oty cells =>
  obtain ⟨b, cs, ty, h1, h2, h3, h4, h5⟩ := h
  exact ⟨b, cs, ty, h1, h2, by rw [H.renL_len] at h3; exact h3, fun i c z hc hz => (h4 i c _ hc (by rw [H.renL_get, hz]; rfl)).unren rfl, h5⟩
 | vec e sz rows => exact h
 | map es => exact h
 | iter s pos => exact h
 | dvec e sz rows => exact h
 | miter m es rest cur => exact h
def renO (f : Nat → Nat) (own : List (Nat × Own)) : List (Nat × Own) := own.map fun p => (f p.1, p.2.ren f)
theorem gt_renO {f : Nat → Nat} (hf : ∀ a b, f a = f b → a = b) : ∀ (own : List (Nat × Own)) (n : Nat), gt (renO f own) (f n) = (gt own n).map (Own.ren f)
 | [], n => rfl
 | (k, o) :: r, n => by
  have ih := gt_renO hf r n
  simp only [renO, List.map_cons, gt_cons] at ih ⊢
  by_cases h : k = n
  ·subst h; simp
  ·rw [if_neg h, if_neg fun e => h (hf _ _ e)]; exact ih
theorem gt_renO_some {f : Nat → Nat} (hf : ∀ a b, f a = f b → a = b) {own : List (Nat × Own)} {m : Nat} {o : Own} (h : gt (renO f own) m = some o) : ∃ n o', m = f n ∧ gt own n = some o' ∧ o = o'.ren f := by
 have hm := gt_mem h
 simp only [renO, List.mem_map] at hm
 obtain ⟨⟨k, o1⟩, _, he⟩ := hm
 simp only [Prod.mk.injEq] at he
 obtain ⟨rfl, _⟩ := he
 rw [gt_renO hf] at h
 cases hg : gt own k with
 | none => rw [hg] at h; cases h
 | some o' => rw [hg] at h; simp at h; exact ⟨k, o', rfl, hg, h.symm⟩
mutual
def H.allN (p : Nat → Bool) : H → Bool
 | .d _ => true
 | .junk => true
 | .bp n _ => p n
 | .vh n _ => p n
 | .ep n _ _ _ => p n
 | .mp n => p n
 | .np n _ => p n
 | .sd n => p n
 | .agg cs => H.allNL p cs
 | .tup vs => H.allNL p vs
 | .fn _ a b => H.allNL p a && H.allNL p b
def H.allNL (p : Nat → Bool) : List H → Bool
 | [] => true
 | x :: r => H.allN p x && H.allNL p r
end
mutual
theorem H.allN_has {p : Nat → Bool} {n : Nat} : ∀ {x : H}, H.allN p x = true → H.has n x = true → p n = true
 | .d _, _, h => by simp [H.has] at h
 | .junk, _, h => by simp [H.has] at h
 | .bp m _, h, hn => by simp [H.has, H.allN] at h hn; exact hn ▸ h
 | .vh m _, h, hn => by simp [H.has, H.allN] at h hn; exact hn ▸ h
 | .ep m _ _ _, h, hn => by simp [H.has, H.allN] at h hn; exact hn ▸ h
 | .mp m, h, hn => by simp [H.has, H.allN] at h hn; exact hn ▸ h
 | .np m _, h, hn => by simp [H.has, H.allN] at h hn; exact hn ▸ h
 | .sd m, h, hn => by simp [H.has, H.allN] at h hn; exact hn ▸ h
 | .agg cs, h, hn => by rw [H.allN] at h; rw [H.has] at hn; exact H.allNL_has h hn
 | .tup cs, h, hn => by rw [H.allN] at h; rw [H.has] at hn; exact H.allNL_has h hn
 | .fn _ a b, h, hn => by
  rw [H.allN, Bool.and_eq_true] at h
  rw [H.has, Bool.or_eq_true] at hn
  rcases hn with hn | hn
  ·exact H.allNL_has h.1 hn
  ·exact H.allNL_has h.2 hn
theorem H.allNL_has {p : Nat → Bool} {n : Nat} : ∀ {l : List H}, H.allNL p l = true → H.hasL n l = true → p n = true
 | [], _, h => by simp [H.hasL] at h
 | x :: r, h, hn => by
  rw [H.allNL, Bool.and_eq_true] at h
  rw [H.hasL, Bool.or_eq_true] at hn
  rcases hn with hn | hn
  ·exact H.allN_has h.1 hn
  ·exact H.allNL_has h.2 hn
end
def Own.allN (p : Nat → Bool) : Own → Bool
 | .box _ cells => H.allNL p cells
 | .vec .. => true
 | .map _ => true
 | .iter _ _ => true
 | .dvec .. => true
 | .miter m _ _ _ => p m
def σf (σ : List (Nat × Nat)) (m : Nat) : Nat := match gt σ m with
 | some k => k
 | none => m + 1000000
def σok : List (Nat × Nat) → Bool
 | [] => true
 | (_, b) :: r => Nat.blt b 1000000 && (r.all fun p => !Nat.beq p.2 b) && σok r
theorem σok_lt : ∀ {σ : List (Nat × Nat)}, σok σ = true → ∀ {m k : Nat}, gt σ m = some k → k < 1000000
 | (a, b) :: r, h, m, k, hg => by
  simp only [σok, Bool.and_eq_true] at h
  rw [gt_cons] at hg
  split at hg
  ·simp at hg; subst hg; exact by simpa [Nat.blt_eq] using h.1.1
  ·exact σok_lt h.2 hg
theorem σok_inj : ∀ {σ : List (Nat × Nat)}, σok σ = true → ∀ {m m' k : Nat}, gt σ m = some k → gt σ m' = some k → m = m'
 | (a, b) :: r, h, m, m', k, hg, hg' => by
  simp only [σok, Bool.and_eq_true, List.all_eq_true] at h
  have hne : ∀ x, gt r x ≠ some b := fun x hx => by
   have := h.1.2 _ (gt_mem hx)
   simp at this
  rw [gt_cons] at hg hg'
  split at hg <;> split at hg'
  ·rename_i h1 h2; exact h1.symm.trans h2
  ·simp at hg; subst hg; exact (hne _ hg').elim
  ·simp at hg'; subst hg'; exact (hne _ hg).elim
  ·exact σok_inj h.2 hg hg'
theorem σf_inj {σ : List (Nat × Nat)} (h : σok σ = true) (a b : Nat) (he : σf σ a = σf σ b) : a = b := by
 unfold σf at he
 cases ha : gt σ a with
 | none =>
  cases hb : gt σ b with
  | none => rw [ha, hb] at he; simp only [] at he; omega
  | some k => rw [ha, hb] at he; have := σok_lt h hb; simp only [] at he; omega
 | some k =>
  cases hb : gt σ b with
  | none => rw [ha, hb] at he; have := σok_lt h ha; simp only [] at he; omega
  | some k' => rw [ha, hb] at he; simp only [] at he; subst he; exact σok_inj h ha hb
def renOk (σ : List (Nat × Nat)) (own : List (Nat × Own)) (r : H) (own' : List (Nat × Own)) : Bool :=
 σok σ && own.all (fun p => Nat.ble given p.1) && own'.all (fun p => Nat.ble given p.1 || Nat.blt (σf σ p.1) given) &&
  H.allN (fun n => Nat.ble given n || (gt own' n).isSome) r && own'.all (fun p => Own.allN (fun n => Nat.ble given n || (gt own' n).isSome) p.2)
open Classical in
theorem FnOk.ren {P : Program} {f : FuncId} {args : List H} {own own' : List (Nat × Own)} {r : H} (h : FnOk P f args own r own') (σ : List (Nat × Nat)) (hc : renOk σ own r own' = true) :
  FnAt P f (H.renL (σf σ) args) (renO (σf σ) own) (r.ren (σf σ)) (renO (σf σ) own') := by
 simp only [renOk, Bool.and_eq_true, List.all_eq_true] at hc
 obtain ⟨⟨⟨⟨c1, c2⟩, c3⟩, c4⟩, c5⟩ := hc
 have hf := σf_inj c1
 refine ⟨h.1, fun E M w vs hgm hm how hvs => ?_⟩
 refine (h.2 (fun n => E (σf σ n)) M w vs hgm hm ⟨fun n o hn => ?_, fun n m o o' b hne hn hm' hb hb2 => ?_⟩ ⟨?_, fun i c x hc hx => ?_⟩).mono ?_
 ·exact (how.ok _ _ (by rw [gt_renO hf, hn]; rfl)).unren
 ·refine how.apart (σf σ n) (σf σ m) (o.ren (σf σ)) (o'.ren (σf σ)) b (fun e => hne (hf _ _ e)) (by rw [gt_renO hf, hn]; rfl) (by rw [gt_renO hf, hm']; rfl) ?_ ?_
  ·rw [Own.ren_foot]; exact hb
  ·rw [Own.ren_foot]; exact hb2
 ·rw [hvs.1, H.renL_len]
 ·exact (hvs.2 i c _ hc (by rw [H.renL_get, hx]; rfl)).unren rfl
 rintro e w' ⟨v, E2, M2, rfl, hp⟩
 let E' : Env := fun n => if h : ∃ m, σf σ m = n ∧ m < given ∧ gt own' m ≠ none then E2 (Classical.choose h) else E n
 have hE1 : ∀ m, given ≤ m ∨ gt own' m ≠ none → E' (σf σ m) = E2 m := by
  intro m hm'
  by_cases hlt : m < given
  ·have hm2 : gt own' m ≠ none := by rcases hm' with h1 | h1; (omega); exact h1
   have hex : ∃ m', σf σ m' = σf σ m ∧ m' < given ∧ gt own' m' ≠ none := ⟨m, rfl, hlt, hm2⟩
   simp only [E']
   rw [dif_pos hex]
   exact congrArg E2 (hf _ _ (Classical.choose_spec hex).1)
  ·have hex : ¬ ∃ m', σf σ m' = σf σ m ∧ m' < given ∧ gt own' m' ≠ none := by
    rintro ⟨m', he, hl, _⟩
    have := hf _ _ he
    omega
   simp only [E']
   rw [dif_neg hex]
   exact (hp.env m (by omega)).symm
 have hE2 : ∀ n, (¬ ∃ m, σf σ m = n ∧ m < given ∧ gt own' m ≠ none) → E' n = E n := fun n hn => by simp only [E']; rw [dif_neg hn]
 have hpn : ∀ n, (Nat.ble given n || (gt own' n).isSome) = true → given ≤ n ∨ gt own' n ≠ none := by
  intro n hn
  rw [Bool.or_eq_true] at hn
  rcases hn with hn | hn
  ·exact .inl (Nat.le_of_ble_eq_true hn)
  ·exact .inr fun e => by rw [e] at hn; cases hn
 have hext : ∀ b, inExt (fun n => E (σf σ n)) w own b → inExt E w (renO (σf σ) own) b := by
  rintro b ⟨n, o, hn, hb⟩
  exact ⟨σf σ n, o.ren (σf σ), by rw [gt_renO hf, hn]; rfl, by rw [Own.ren_foot]; exact hb⟩
 have hblk : ∀ n o, gt own' n = some o → E' (σf σ n) = E2 n := fun n o hn => hE1 n (.inr (by rw [hn]; simp))
 refine ⟨v, E', M2, rfl, { rep := hp.rep.ren fun n hn => hE1 n (hpn n (H.allN_has c4 hn)), owns := ⟨fun n o hn => ?_, fun n m o o' b hne hn hm' hb hb2 => ?_⟩, mle := hp.mle, mem := hp.mem, mnew := fun b o v hv => ?_, home := fun n o b hn hb => ?_, frame := fun k hk hx => hp.frame k hk fun h1 => hx (hext k h1), grows := hp.grows, os := hp.os, tape := hp.tape, output := hp.output, env := fun n hn => hE2 n ?_ }, fun n hn => hE2 n ?_⟩
 ·obtain ⟨m, o1, rfl, hg, rfl⟩ := gt_renO_some hf hn
  refine (hp.owns.ok m o1 hg).ren (hblk m o1 hg) fun k hk => hE1 k (hpn k ?_)
  have := c5 _ (gt_mem hg)
  cases o1 with
  | box oty cells => exact H.allNL_has this hk
  | vec e sz rows => simp [Own.has] at hk
  | map es => simp [Own.has] at hk
  | iter s pos => simp [Own.has] at hk
  | dvec e sz rows => simp [Own.has] at hk
  | miter m es rest cur => simp only [Own.has] at hk; exact (Nat.eq_of_beq_eq_true hk) ▸ this
 ·obtain ⟨n1, o1, rfl, hg1, rfl⟩ := gt_renO_some hf hn
  obtain ⟨m1, o2, rfl, hg2, rfl⟩ := gt_renO_some hf hm'
  rw [hblk n1 o1 hg1, Own.ren_foot] at hb
  rw [hblk m1 o2 hg2, Own.ren_foot] at hb2
  exact hp.owns.apart n1 m1 _ _ b (fun e => hne (by rw [e])) hg1 hg2 hb hb2
 ·rcases hp.mnew b o v hv with h1 | h1 | h1
  ·exact .inl h1
  ·exact .inr (.inl (hext b h1))
  ·exact .inr (.inr h1)
 ·obtain ⟨m, o1, rfl, hg, rfl⟩ := gt_renO_some hf hn
  rw [hblk m o1 hg, Own.ren_foot] at hb
  rcases hp.home m o1 b hg hb with h1 | h1
  ·exact .inl (hext b h1)
  ·exact .inr h1
 ·rintro ⟨m, rfl, hl, hne⟩
  cases hg : gt own' m with
  | none => exact hne hg
  | some o =>
   have := c3 _ (gt_mem hg)
   simp only [Bool.or_eq_true] at this
   rcases this with h1 | h1
   ·have := Nat.le_of_ble_eq_true h1; omega
   ·have : σf σ m < given := by simpa [Nat.blt_eq] using h1
    omega
 ·rintro ⟨m, rfl, hl, hne⟩
  rcases hn with hn | ⟨o, ho⟩
  ·rw [gt_renO hf] at hn
   cases hg : gt own' m with
   | none => exact hne hg
   | some o => rw [hg] at hn; cases hn
  ·obtain ⟨n1, o1, he, hg, _⟩ := gt_renO_some hf ho
   have := hf _ _ he
   subst this
   have := Nat.le_of_ble_eq_true (c2 _ (gt_mem hg))
   simp only [] at this
   omega
end Go.Awp
end
section
namespace Go.Awp
variable [Inhabited GMem]
def D.le (a b : D) : Prop := ∀ (M : Mem) (v : Value), DRep M v a → DRep M v b
def H.le (a b : H) : Prop := ∀ (E : Env) (M : Mem) (v : Value), HRep E M v a → HRep E M v b
theorem D.le.refl (a : D) : D.le a a := fun _ _ h => h
theorem H.le.refl (a : H) : H.le a a := fun _ _ _ h => h
theorem H.le.d {a b : D} (h : D.le a b) : H.le (.d a) (.d b) := fun E M v hv => by
 cases hv with
 | d hd => exact .d (h M v hd)
theorem D.le.ern : D.le (.v .nilIface) (.er false) := fun M v hv => by
 cases hv
 exact .ern
theorem D.le.nil (sz : Nat) : D.le (.v (.slice none 0 0)) (.sl sz []) := fun M v hv => by
 cases hv with
 | v => exact .slnil sz
inductive D.Les : List D → List D → Prop
 | nil : D.Les [] []
 | cons {a b : D} {r s : List D} (h : D.le a b) (t : D.Les r s) : D.Les (a :: r) (b :: s)
theorem D.Les.len {a b : List D} (h : D.Les a b) : a.length = b.length := by
 induction h with
 | nil => rfl
 | cons h t ih => simp [ih]
theorem D.Les.get {a b : List D} (h : D.Les a b) : ∀ (i : Nat) (y : D), b[i]? = some y → ∃ x, a[i]? = some x ∧ D.le x y := by
 induction h with
 | nil => intro i y hy; simp at hy
 | cons h t ih =>
  intro i y hy
  cases i with
  | zero => simp at hy; subst hy; exact ⟨_, rfl, h⟩
  | succ i => exact ih i y (by simpa using hy)
theorem D.Les.refl : ∀ a : List D, D.Les a a
 | [] => .nil
 | x :: r => .cons (.refl x) (D.Les.refl r)
theorem D.le.agg {a b : List D} (h : D.Les a b) : D.le (.agg a) (.agg b) := fun M v hv => by
 cases hv with
 | agg cs l hl hh =>
  refine .agg cs b (hl.trans h.len) fun i c y hc hy => ?_
  obtain ⟨x, hx, hxy⟩ := h.get i y hy
  exact hxy M c (hh i c x hc hx)
inductive D.Rows : List (List D) → List (List D) → Prop
 | nil : D.Rows [] []
 | cons {a b : List D} {r s : List (List D)} (h : D.Les a b) (t : D.Rows r s) : D.Rows (a :: r) (b :: s)
theorem D.Rows.len {a b : List (List D)} (h : D.Rows a b) : a.length = b.length := by
 induction h with
 | nil => rfl
 | cons h t ih => simp [ih]
theorem D.Rows.get {a b : List (List D)} (h : D.Rows a b) : ∀ (i : Nat) (y : List D), b[i]? = some y → ∃ x, a[i]? = some x ∧ D.Les x y := by
 induction h with
 | nil => intro i y hy; simp at hy
 | cons h t ih =>
  intro i y hy
  cases i with
  | zero => simp at hy; subst hy; exact ⟨_, rfl, h⟩
  | succ i => exact ih i y (by simpa using hy)
theorem D.le.sl {sz : Nat} {a b : List (List D)} (h : D.Rows a b) : D.le (.sl sz a) (.sl sz b) := fun M v hv => by
 cases hv with
 | slnil => cases h; exact .slnil sz
 | slmt a cap => cases h; exact .slmt a cap sz
 | sl bl off len cap _ _ c hlen hcap hsz hm hh =>
  refine .sl bl off len cap sz b c (hlen.trans h.len) hcap (fun r hr => ?_) hm fun i j r y hr hy => ?_
  ·obtain ⟨i, hi, rfl⟩ := List.getElem_of_mem hr
   obtain ⟨x, hx, hxy⟩ := h.get i _ (List.getElem?_eq_getElem hi)
   rw [← hxy.len]; exact hsz x (List.mem_of_getElem? hx)
  ·obtain ⟨x, hx, hxy⟩ := h.get i r hr
   obtain ⟨z, hz, hzy⟩ := hxy.get j y hy
   exact hzy M _ (hh i j x z hx hz)
theorem FnOk.weak {P : Program} {f : FuncId} {args args' : List H} {own own' : List (Nat × Own)} {r : H} (h : FnOk P f args own r own') (hl : args'.length = args.length)
  (hw : ∀ (i : Nat) (x' x : H), args'[i]? = some x' → args[i]? = some x → H.le x' x) : FnOk P f args' own r own' := by
 refine ⟨h.1, fun E M w vs hgm hm ho hv => h.2 E M w vs hgm hm ho ⟨hv.1.trans hl, fun i c x hc hx => ?_⟩⟩
 have hi : i < args'.length := by rw [hl]; exact (List.getElem?_eq_some_iff.1 hx).1
 exact hw i _ x (List.getElem?_eq_getElem hi) hx E M c (hv.2 i c _ hc (List.getElem?_eq_getElem hi))
end Go.Awp
end
section
namespace Go.Awp
variable [Inhabited GMem]
variable {H0 : Type} {enc : TypeId × Value → H0} {P : Program} {W : World} {spare : Nat → Bool} {held : Bool} {base : Nat}
def memOf (W : World) : Mem := fun b o => W.cell? ⟨b, o, none⟩
theorem mapM_some {α β : Type} {f : α → Option β} : ∀ {l : List α} {r : List β}, l.mapM f = some r → r.length = l.length ∧ ∀ (i : Nat) (x : α), l[i]? = some x → ∃ y, r[i]? = some y ∧ f x = some y
 | [], r, h => by
  simp at h; subst h
  exact ⟨rfl, fun i x hx => by simp at hx⟩
 | a :: l, r, h => by
  rw [List.mapM_cons] at h
  cases ha : f a with
  | none => rw [ha] at h; cases h
  | some y =>
   rw [ha] at h
   cases hl : l.mapM f with
   | none => simp [hl] at h
   | some ys =>
    simp [hl] at h
    subst h
    obtain ⟨h1, h2⟩ := mapM_some hl
    refine ⟨by simp [h1], fun i x hx => ?_⟩
    cases i with
    | zero => simp at hx; subst hx; exact ⟨y, rfl, ha⟩
    | succ i => exact h2 i x (by simpa using hx)
theorem read_int {t : TypeId} {k : IntKind} (hu : P.underlying t = some (.int k)) {fuel : Nat} {cs : List Value} {x : DataW H0 × List MemPlace} (h : DataW.trod enc P W base spare held fuel t cs = some x) :
  ∃ n, cs = [.int k n] ∧ (Lit.int k n).wf = true := by
 cases fuel with
 | zero => cases h
 | succ fuel =>
  unfold DataW.trod at h
  rw [hu] at h
  simp only [] at h
  split at h <;> try (rename_i h1 _; cases h1)
  all_goals try (cases h; done)
  all_goals simp_all
theorem read_bool {t : TypeId} (hu : P.underlying t = some .bool) {fuel : Nat} {cs : List Value} {x : DataW H0 × List MemPlace} (h : DataW.trod enc P W base spare held fuel t cs = some x) :
  ∃ b, cs = [.bool b] := by
 cases fuel with
 | zero => cases h
 | succ fuel =>
  unfold DataW.trod at h
  rw [hu] at h
  simp only [] at h
  split at h <;> try (rename_i h1 _; cases h1)
  all_goals try (cases h; done)
  all_goals simp_all
theorem read_cells {w : World} {b n : Nat} {a : Addr} {row : List Value} (h : w.cells? b a n = some row) : row.length = n ∧ ∀ j, j < n → w.cell? (a.add j) = row[j]? := by
 unfold World.cells? at h
 split at h
 ·obtain ⟨h1, h2⟩ := mapM_some h
  rw [List.length_range] at h1
  refine ⟨h1, fun j hj => ?_⟩
  obtain ⟨y, hy, hf⟩ := h2 j j (by rw [List.getElem?_range hj])
  rw [hf, hy]
 ·cases h
theorem list_of {α : Type} {R : Nat → α → Prop} : ∀ (n : Nat), (∀ i, i < n → ∃ x, R i x) → ∃ l : List α, l.length = n ∧ ∀ (i : Nat) (x : α), l[i]? = some x → R i x
 | 0, _ => ⟨[], rfl, fun i x hx => by simp at hx⟩
 | n + 1, h => by
  obtain ⟨l, h1, h2⟩ := list_of n fun i hi => h i (by omega)
  obtain ⟨x, hx⟩ := h n (by omega)
  refine ⟨l ++ [x], by simp [h1], fun i y hy => ?_⟩
  by_cases hi : i < l.length
  ·rw [List.getElem?_append_left hi] at hy; exact h2 i y hy
  ·rw [List.getElem?_append_right (by omega)] at hy
   have : i - l.length = 0 := by
    have := (List.getElem?_eq_some_iff.1 hy).1
    simp at this; omega
   rw [this] at hy
   simp at hy
   subst hy
   have : i = n := by omega
   subst this; exact hx
theorem addr_plain {w : World} {a : Addr} {k : Nat} {v : Value} (h : w.cell? (a.add k) = some v) (hk : k = 0) : a.spot = none := by
 subst hk
 simp only [Addr.add, if_true] at h
 unfold World.cell? at h
 split at h
 ·split at h
  ·cases h
  ·rename_i hs; simpa using hs
 ·cases h
theorem add_none (b o k : Nat) : (⟨b, o, none⟩ : Addr).add k = ⟨b, o + k, none⟩ := by
 unfold Addr.add
 split
 ·rename_i h; subst h; rfl
 ·rfl
theorem DRep.of_slice {W : World} {b : Nat} {a : Addr} {len cap sz : Nat} (hsz : 0 < sz) (hc : len ≤ cap) {rows : List (List D)} (hl : rows.length = len) (hr : ∀ r ∈ rows, r.length = sz)
  (h : ∀ i, i < len → ∃ row, W.cells? b (a.add (i * sz)) sz = some row ∧ ∀ r, rows[i]? = some r → ∀ (j : Nat) (c : Value) (x : D), row[j]? = some c → r[j]? = some x → DRep (memOf W) c x) :
  DRep (memOf W) (.slice (some a) len cap) (.sl sz rows) := by
 by_cases h0 : len = 0
 ·subst h0
  have : rows = [] := List.eq_nil_of_length_eq_zero hl
  subst this
  exact .slmt a cap sz
 ·have hspot : a.spot = none := by
   obtain ⟨row, h1, _⟩ := h 0 (by omega)
   rw [Nat.zero_mul] at h1
   obtain ⟨g1, g2⟩ := read_cells h1
   have := g2 0 hsz
   have h3 : (a.add 0) = a := by simp [Addr.add]
   rw [h3] at this
   rw [List.getElem?_eq_getElem (by omega)] at this
   exact addr_plain (k := 0) this rfl
  obtain ⟨blk, off, spot⟩ := a
  simp only [] at hspot
  subst hspot
  have cell : ∀ (i j : Nat), i < len → j < sz → ∃ row c, W.cells? b ((⟨blk, off, none⟩ : Addr).add (i * sz)) sz = some row ∧ row[j]? = some c ∧ W.cell? ⟨blk, off + (i * sz + j), none⟩ = some c ∧
    ∀ r, rows[i]? = some r → ∀ (x : D), r[j]? = some x → DRep (memOf W) c x := by
   intro i j hi hj
   obtain ⟨row, h1, h2⟩ := h i hi
   obtain ⟨g1, g2⟩ := read_cells h1
   have := g2 j hj
   rw [add_none, add_none] at this
   have hrow : row[j]? = some (row[j]'(by omega)) := List.getElem?_eq_getElem (by omega)
   rw [hrow, Nat.add_assoc] at this
   exact ⟨row, _, h1, hrow, this, fun r hr x hx => h2 r hr j _ x hrow hx⟩
  refine .sl blk off len cap sz rows (fun k => (W.cell? ⟨blk, off + k, none⟩).getD undef) hl.symm hc hr (fun k hk => ?_) fun i j r x hr' hx => ?_
  ·have hi : k / sz < len := Nat.div_lt_of_lt_mul (by rw [Nat.mul_comm]; exact hk)
   obtain ⟨row, c, _, _, h3, _⟩ := cell (k / sz) (k % sz) hi (Nat.mod_lt _ hsz)
   have hdm : k / sz * sz + k % sz = k := by rw [Nat.mul_comm]; exact Nat.div_add_mod k sz
   rw [hdm] at h3
   simp [memOf, h3]
  ·have hi : i < len := by rw [← hl]; exact (List.getElem?_eq_some_iff.1 hr').1
   have hj : j < sz := by rw [← hr r (List.mem_of_getElem? hr')]; exact (List.getElem?_eq_some_iff.1 hx).1
   obtain ⟨row, c, _, _, h3, h4⟩ := cell i j hi hj
   simp only [h3, Option.getD_some]
   exact h4 r hr' x hx
theorem FnOk.closed {f : FuncId} {args : List H} {x : Value} (h : FnOk P f args [] (.d (.v x)) []) {W : World} {vs : Array Value} (hg : GOk (memOf W) W) (hv : HReps (fun _ => undef) (memOf W) vs args) :
  Calls P f vs W fun e W' => e = .returned x ∧ Go.RowKit.Below W.heap.size W W' :=
 (h.2 (fun _ => undef) (memOf W) W vs hg (fun _ _ _ hm => hm) ⟨fun n o hn => by simp [gt] at hn, fun n m o o' b _ hn => by simp [gt] at hn⟩ hv).mono fun e W' ⟨v, E', M', he, hp⟩ => by
   have hr := hp.rep
   cases hr with
   | d hd => cases hd with
    | v => exact ⟨he, hp.os, hp.tape, hp.output, hp.grows, fun k hk => hp.frame k hk fun ⟨n, o, hn, _⟩ => by simp [gt] at hn⟩
end Go.Awp
end
section
namespace Go.Proofs.YtogoamfegaebgaaGreatDoor
open Go.Awp
noncomputable def tabs : Mem := fun b o =>
 if b = 0 then (if o < 20 then some (.int .u64 (Lib.pow10Tab.getD o 0)) else none) else none
noncomputable instance : Inhabited GMem := ⟨{ mem := tabs, errs := [2, 3], whole := [(0, 20)] }⟩
theorem pow10_len : Lib.pow10Tab.length = 20 := by decide
theorem tab_pow10 {M : Mem} {w : World} (hg : GOk M w) (hm : ∀ b o v, M b o = some v → w.cell? ⟨b, o, none⟩ = some v) : Lib.TabIs Tryz.prog w "internal/strconv.uint64pow10" .u64 Lib.pow10Tab := by
 obtain ⟨_, cs, t, fr, hw, hs⟩ := hg.whole (0, 20) (.head _)
 simp only at hw hs
 have hcell : ∀ i, i < 20 → cs[i]? = some (.int .u64 (Lib.pow10Tab.getD i 0)) := by
  intro i hi
  have := hm 0 i _ (hg.le 0 i (.int .u64 (Lib.pow10Tab.getD i 0)) (by show tabs 0 i = _; simp [tabs, hi]))
  simpa [World.cell?, hw] using this
 unfold Lib.TabIs World.var?
 have hn : Tryz.prog.globalNamed "internal/strconv.uint64pow10" = some 0 := by kernel_rfl
 rw [hn]
 simp only [Option.bind_some, hw, Option.some.injEq]
 apply Array.ext_getElem?
 intro i
 by_cases hi : i < 20
 ·rw [hcell i hi]
  simp only [List.getElem?_toArray, List.getElem?_map]
  rw [List.getElem?_eq_getElem (by rw [pow10_len]; exact hi)]
  simp [List.getD, List.getElem?_eq_getElem (show i < Lib.pow10Tab.length by rw [pow10_len]; exact hi)]
 ·rw [Array.getElem?_eq_none (by omega)]
  rw [Array.getElem?_eq_none (by simp [pow10_len]; omega)]
theorem gm_syntax {M : Mem} {w : World} (hg : GOk M w) (hm : ∀ b o v, M b o = some v → w.cell? ⟨b, o, none⟩ = some v) : ∃ t x, w.cell? ⟨2, 0, none⟩ = some (.iface t x) :=
 let ⟨t, x, h⟩ := hg.errs 2 (.head _)
 ⟨t, x, hm _ _ _ h⟩
theorem gm_range {M : Mem} {w : World} (hg : GOk M w) (hm : ∀ b o v, M b o = some v → w.cell? ⟨b, o, none⟩ = some v) : ∃ t x, w.cell? ⟨3, 0, none⟩ = some (.iface t x) :=
 let ⟨t, x, h⟩ := hg.errs 3 (.tail _ (.head _))
 ⟨t, x, hm _ _ _ h⟩
theorem tabs_le {w : World} (h10 : Lib.TabIs Tryz.prog w "internal/strconv.uint64pow10" .u64 Lib.pow10Tab) : gmem.le (memOf w) := by
 intro b o v hv
 change tabs b o = some v at hv
 unfold tabs at hv
 split at hv
 ·rename_i hb; subst hb
  split at hv
  ·rename_i ho
   cases hv
   exact h10.cell (by kernel_rfl) o (by rw [pow10_len]; exact ho)
  ·cases hv
 ·cases hv
theorem below_bytes {w w' : World} {e : TypeId} (h : w' = w ∨ ∃ t, w' = Lib.bytesWorld w e t) : Go.RowKit.Below w.heap.size w w' := by
 rcases h with rfl | ⟨t, rfl⟩
 ·exact Go.RowKit.Below.refl _ _
 ·exact Lib.bytesWorld_below _ _ _
theorem hrep_er {E : Env} {M : Mem} {k : IntKind} {n : Int} {v : Value} {b : Bool} (h : DRep M v (.er b)) : HRep E M (.tuple #[.int k n, v]) (.tup [.d (.v (.int k n)), .d (.er b)]) :=
 .tup _ _ rfl fun i c x hc hx => by
  match i with
  | 0 => simp at hc hx; subst hc; subst hx; exact .d (.v _)
  | 1 => simp at hc hx; subst hc; subst hx; exact .d h
  | i + 2 => simp at hc
end Go.Proofs.YtogoamfegaebgaaGreatDoor
end
section
namespace Go.Proofs
open Go.Shelf
open Go.Proofs.Tryz (prog)
def Tryz.lays156_ren : Go.Shelf.Ren := ⟨fun | 156 => 30 | 165 => 54 | 166 => 55 | 169 => 56 | 240 => 68 | 241 => 69 | 276 => 81 | 277 => 82 | n => n, fun | 31 => 63 | 9 => 9 | 3 => 3 | 4 => 4 | 0 => 0 | 20 => 20 | 72 => 87 | 76 => 91 | 70 => 84 | 37 => 85 | 75 => 90 | 127 => 101 | 164 => 116 | 5 => 5 | 80 => 93 | n => n, fun | n => n⟩
theorem Tryz.lays156 : Go.Proofs.Lays.n156 prog Tryz.lays156_ren := {
 mixed := by kernel_rfl
 f156 := Tryz.func30.trans (congrArg some (by kernel_rfl))
 f165 := Tryz.func54.trans (congrArg some (by kernel_rfl))
 f166 := Tryz.func55.trans (congrArg some (by kernel_rfl))
 f169 := Tryz.func56.trans (congrArg some (by kernel_rfl))
 f240 := Tryz.func68.trans (congrArg some (by kernel_rfl))
 f241 := Tryz.func69.trans (congrArg some (by kernel_rfl))
 f276 := Tryz.func81.trans (congrArg some (by kernel_rfl))
 f277 := Tryz.func82.trans (congrArg some (by kernel_rfl))
 t0 := Tryz.underlying0
 a0 := Tryz.isAgg0
 z0 := Tryz.sizeOf0
 v0 := Tryz.zeroValue0
 t3 := Tryz.underlying3
 a3 := Tryz.isAgg3
 z3 := Tryz.sizeOf3
 v3 := Tryz.zeroValue3
 t4 := Tryz.underlying4
 a4 := Tryz.isAgg4
 z4 := Tryz.sizeOf4
 v4 := Tryz.zeroValue4
 t9 := Tryz.underlying9
 a9 := Tryz.isAgg9
 z9 := Tryz.sizeOf9
 v9 := Tryz.zeroValue9
 t20 := Tryz.underlying20
 a20 := Tryz.isAgg20
 z20 := Tryz.sizeOf20
 v20 := Tryz.zeroValue20
 t31 := Tryz.underlying63
 a31 := Tryz.isAgg63
 z31 := Tryz.sizeOf63
 v31 := Tryz.zeroValue63
 t37 := Tryz.underlying85
 a37 := Tryz.isAgg85
 z37 := Tryz.sizeOf85
 v37 := Tryz.zeroValue85
 t70 := Tryz.underlying84
 a70 := Tryz.isAgg84
 z70 := Tryz.sizeOf84
 v70 := Tryz.zeroValue84
 t72 := Tryz.underlying87
 a72 := Tryz.isAgg87
 z72 := Tryz.sizeOf87
 v72 := Tryz.zeroValue87
 t75 := Tryz.underlying90
 a75 := Tryz.isAgg90
 z75 := Tryz.sizeOf90
 v75 := Tryz.zeroValue90
 t76 := Tryz.underlying91
 a76 := Tryz.isAgg91
 z76 := Tryz.sizeOf91
 v76 := Tryz.zeroValue91
 t127 := Tryz.underlying101
 a127 := Tryz.isAgg101
 z127 := Tryz.sizeOf101
 v127 := Tryz.zeroValue101
 t164 := Tryz.underlying116
 a164 := Tryz.isAgg116
 z164 := Tryz.sizeOf116
 v164 := Tryz.zeroValue116 }
theorem Tryz.Builder_Extra_156 : Builder.Extra prog Tryz.lays156_ren := {
 sizeBuilder := by kernel_rfl
 liesBuilder := by kernel_rfl
 t5 := Tryz.underlying5
 a5 := Tryz.isAgg5
 z5 := Tryz.sizeOf5
 v5 := Tryz.zeroValue5
 infoByte := by kernel_rfl
 cellsByte := by kernel_rfl
 sizeByte := by kernel_rfl
 neB5 := by decide }
open Go.RowKit in
theorem Tryz.strings_Join_none (a : Option Addr) (c : Nat) (sep : ByteArray) (w : World) :
  Calls prog 30 #[.slice a 0 c, .string sep] w fun e w' => e = .returned (.string ⟨#[]⟩) ∧ w' = w := Any.strings_Join_none Tryz.lays156 Tryz.Builder_Extra_156 a c sep w
open Go.RowKit in
theorem Tryz.strings_Join (bk o c : Nat) (xs : List ByteArray) (sep : ByteArray) (w : World) (hcells : ∀ (j : Nat) x, xs[j]? = some x → w.cell? ⟨bk, o + j, none⟩ = some (.string x)) (hbk : bk < w.heap.size) (hN : xs.length ≤ 140737488355328) (hcap : xs.length ≤ c) (hlen : (Lib.join (xs.map (·.data.toList)) sep.data.toList).length ≤ 140737488355328) :
  Calls prog 30 #[.slice (some ⟨bk, o, none⟩) xs.length c, .string sep] w fun e w' => e = .returned (.string ⟨(Lib.join (xs.map (·.data.toList)) sep.data.toList).toArray⟩) ∧ Below w.heap.size w w' := Any.strings_Join Tryz.lays156 Tryz.Builder_Extra_156 bk o c xs sep w hcells hbk hN hcap hlen
def Tryz.lays161_ren : Go.Shelf.Ren := ⟨fun | 161 => 62 | 231 => 71 | 227 => 72 | 233 => 73 | 235 => 74 | 228 => 84 | 197 => 85 | 151 => 86 | 260 => 97 | 152 => 98 | 137 => 104 | 119 => 105 | 224 => 106 | 225 => 107 | 217 => 110 | 266 => 111 | n => n, fun | 9 => 9 | 4 => 4 | 3 => 3 | 5 => 5 | 117 => 105 | 116 => 104 | 0 => 0 | 124 => 108 | 105 => 121 | 21 => 21 | 119 => 145 | 46 => 135 | 139 => 148 | 138 => 147 | n => n, fun | 3 => 4 | 4 => 5 | n => n⟩
theorem Tryz.lays161 : Go.Proofs.Lays.n161 prog Tryz.lays161_ren := {
 mixed := by kernel_rfl
 f119 := Tryz.func105.trans (congrArg some (by kernel_rfl))
 f137 := Tryz.func104.trans (congrArg some (by kernel_rfl))
 f151 := Tryz.func86.trans (congrArg some (by kernel_rfl))
 f152 := Tryz.func98.trans (congrArg some (by kernel_rfl))
 f161 := Tryz.func62.trans (congrArg some (by kernel_rfl))
 f197 := Tryz.func85.trans (congrArg some (by kernel_rfl))
 f217 := Tryz.func110.trans (congrArg some (by kernel_rfl))
 f224 := Tryz.func106.trans (congrArg some (by kernel_rfl))
 f225 := Tryz.func107.trans (congrArg some (by kernel_rfl))
 f227 := Tryz.func72.trans (congrArg some (by kernel_rfl))
 f228 := Tryz.func84.trans (congrArg some (by kernel_rfl))
 f231 := Tryz.func71.trans (congrArg some (by kernel_rfl))
 f233 := Tryz.func73.trans (congrArg some (by kernel_rfl))
 f235 := Tryz.func74.trans (congrArg some (by kernel_rfl))
 f260 := Tryz.func97.trans (congrArg some (by kernel_rfl))
 f266 := Tryz.func111.trans (congrArg some (by kernel_rfl))
 t0 := Tryz.underlying0
 a0 := Tryz.isAgg0
 z0 := Tryz.sizeOf0
 v0 := Tryz.zeroValue0
 t3 := Tryz.underlying3
 a3 := Tryz.isAgg3
 z3 := Tryz.sizeOf3
 v3 := Tryz.zeroValue3
 t4 := Tryz.underlying4
 a4 := Tryz.isAgg4
 z4 := Tryz.sizeOf4
 v4 := Tryz.zeroValue4
 t5 := Tryz.underlying5
 a5 := Tryz.isAgg5
 z5 := Tryz.sizeOf5
 v5 := Tryz.zeroValue5
 t9 := Tryz.underlying9
 a9 := Tryz.isAgg9
 z9 := Tryz.sizeOf9
 v9 := Tryz.zeroValue9
 t21 := Tryz.underlying21
 a21 := Tryz.isAgg21
 z21 := Tryz.sizeOf21
 v21 := Tryz.zeroValue21
 t46 := Tryz.underlying135
 a46 := Tryz.isAgg135
 z46 := Tryz.sizeOf135
 v46 := Tryz.zeroValue135
 t105 := Tryz.underlying121
 a105 := Tryz.isAgg121
 z105 := Tryz.sizeOf121
 v105 := Tryz.zeroValue121
 t116 := Tryz.underlying104
 a116 := Tryz.isAgg104
 z116 := Tryz.sizeOf104
 t117 := Tryz.underlying105
 a117 := Tryz.isAgg105
 z117 := Tryz.sizeOf105
 v117 := Tryz.zeroValue105
 t119 := Tryz.underlying145
 a119 := Tryz.isAgg145
 z119 := Tryz.sizeOf145
 t124 := Tryz.underlying108
 a124 := Tryz.isAgg108
 z124 := Tryz.sizeOf108
 v124 := Tryz.zeroValue108
 t138 := Tryz.underlying147
 a138 := Tryz.isAgg147
 z138 := Tryz.sizeOf147
 v138 := Tryz.zeroValue147
 t139 := Tryz.underlying148
 a139 := Tryz.isAgg148
 z139 := Tryz.sizeOf148
 v139 := Tryz.zeroValue148
 g3 := by kernel_rfl
 g4 := by kernel_rfl }
def Tryz.laysM171_ren : Go.Shelf.Ren := ⟨fun | 171 => 28 | 243 => 53 | 246 => 67 | 283 => 77 | 284 => 78 | 285 => 79 | 286 => 80 | 129 => 93 | 317 => 92 | 318 => 94 | 319 => 95 | 320 => 96 | 337 => 102 | 338 => 103 | n => n, fun | 3 => 3 | 9 => 9 | 2 => 2 | 4 => 4 | 171 => 110 | 0 => 0 | 53 => 111 | 37 => 85 | 5 => 5 | 173 => 114 | 212 => 131 | 51 => 132 | 20 => 20 | 213 => 133 | 46 => 135 | 232 => 156 | 233 => 157 | n => n, fun | 17 => 0 | 18 => 6 | 19 => 7 | n => n⟩
theorem Tryz.laysM171 : Go.Proofs.LaysM.n171 prog Tryz.laysM171_ren := {
 mixed := by kernel_rfl
 f129 := Tryz.func93.trans (congrArg some (by kernel_rfl))
 f171 := Tryz.func28.trans (congrArg some (by kernel_rfl))
 f243 := Tryz.func53.trans (congrArg some (by kernel_rfl))
 f246 := Tryz.func67.trans (congrArg some (by kernel_rfl))
 f283 := Tryz.func77.trans (congrArg some (by kernel_rfl))
 f284 := Tryz.func78.trans (congrArg some (by kernel_rfl))
 f285 := Tryz.func79.trans (congrArg some (by kernel_rfl))
 f286 := Tryz.func80.trans (congrArg some (by kernel_rfl))
 f317 := Tryz.func92.trans (congrArg some (by kernel_rfl))
 f318 := Tryz.func94.trans (congrArg some (by kernel_rfl))
 f319 := Tryz.func95.trans (congrArg some (by kernel_rfl))
 f320 := Tryz.func96.trans (congrArg some (by kernel_rfl))
 f337 := Tryz.func102.trans (congrArg some (by kernel_rfl))
 f338 := Tryz.func103.trans (congrArg some (by kernel_rfl))
 t0 := Tryz.underlying0
 a0 := Tryz.isAgg0
 z0 := Tryz.sizeOf0
 v0 := Tryz.zeroValue0
 t2 := Tryz.underlying2
 a2 := Tryz.isAgg2
 z2 := Tryz.sizeOf2
 v2 := Tryz.zeroValue2
 t3 := Tryz.underlying3
 a3 := Tryz.isAgg3
 z3 := Tryz.sizeOf3
 v3 := Tryz.zeroValue3
 t4 := Tryz.underlying4
 a4 := Tryz.isAgg4
 z4 := Tryz.sizeOf4
 v4 := Tryz.zeroValue4
 t5 := Tryz.underlying5
 a5 := Tryz.isAgg5
 z5 := Tryz.sizeOf5
 v5 := Tryz.zeroValue5
 t9 := Tryz.underlying9
 a9 := Tryz.isAgg9
 z9 := Tryz.sizeOf9
 v9 := Tryz.zeroValue9
 t20 := Tryz.underlying20
 a20 := Tryz.isAgg20
 z20 := Tryz.sizeOf20
 v20 := Tryz.zeroValue20
 t37 := Tryz.underlying85
 a37 := Tryz.isAgg85
 z37 := Tryz.sizeOf85
 v37 := Tryz.zeroValue85
 t46 := Tryz.underlying135
 a46 := Tryz.isAgg135
 z46 := Tryz.sizeOf135
 v46 := Tryz.zeroValue135
 t51 := Tryz.underlying132
 a51 := Tryz.isAgg132
 z51 := Tryz.sizeOf132
 v51 := Tryz.zeroValue132
 t53 := Tryz.underlying111
 a53 := Tryz.isAgg111
 z53 := Tryz.sizeOf111
 v53 := Tryz.zeroValue111
 t171 := Tryz.underlying110
 a171 := Tryz.isAgg110
 z171 := Tryz.sizeOf110
 v171 := Tryz.zeroValue110
 t173 := Tryz.underlying114
 a173 := Tryz.isAgg114
 z173 := Tryz.sizeOf114
 v173 := Tryz.zeroValue114
 t212 := Tryz.underlying131
 a212 := Tryz.isAgg131
 z212 := Tryz.sizeOf131
 v212 := Tryz.zeroValue131
 t213 := Tryz.underlying133
 a213 := Tryz.isAgg133
 z213 := Tryz.sizeOf133
 t232 := Tryz.underlying156
 a232 := Tryz.isAgg156
 z232 := Tryz.sizeOf156
 v232 := Tryz.zeroValue156
 t233 := Tryz.underlying157
 a233 := Tryz.isAgg157
 z233 := Tryz.sizeOf157
 v233 := Tryz.zeroValue157
 g17 := by kernel_rfl
 g18 := by kernel_rfl
 g19 := by kernel_rfl
 i0 := by kernel_rfl
 i2 := by kernel_rfl
 i3 := by kernel_rfl
 i4 := by kernel_rfl
 i5 := by kernel_rfl
 i9 := by kernel_rfl
 i20 := by kernel_rfl
 i37 := by kernel_rfl
 i46 := by kernel_rfl
 i51 := by kernel_rfl
 i53 := by kernel_rfl
 i171 := by kernel_rfl
 i173 := by kernel_rfl
 i212 := by kernel_rfl
 i232 := by kernel_rfl
 i233 := by kernel_rfl
 m17 := by kernel_rfl
 m18 := by kernel_rfl
 m19 := by kernel_rfl }
open Go.RowKit Go.Sort Go.Lib in
theorem Tryz.strconv_Itoa (n : Int) (h0 : -9223372036854775808 ≤ n) (h1 : n ≤ 9223372036854775807) (w : World) (htab : Lib.TabIs prog w "internal/strconv.uint64pow10" .u64 Lib.pow10Tab) :
  Calls prog 28 #[.int .i64 n] w fun e w' => e = .returned (.string ⟨(Lib.itoa n).toArray⟩) ∧ ∃ k os, w' = grow (w.drewN k) os := Any.strconv_Itoa Tryz.laysM171 n h0 h1 w htab
def Tryz.laysC172_ren : Go.Shelf.Ren := ⟨fun | 172 => 63 | 244 => 75 | 245 => 76 | 247 => 87 | 279 => 88 | 280 => 89 | 281 => 90 | 282 => 91 | 287 => 99 | 316 => 100 | 171 => 28 | 205 => 101 | 321 => 108 | 322 => 109 | 243 => 53 | 246 => 67 | 283 => 77 | 284 => 78 | 285 => 79 | 286 => 80 | 129 => 93 | 317 => 92 | 318 => 94 | 319 => 95 | 320 => 96 | 337 => 102 | 338 => 103 | n => n, fun | 9 => 9 | 3 => 3 | 75 => 90 | 76 => 91 | 4 => 4 | 5 => 5 | 167 => 124 | 37 => 85 | 0 => 0 | 85 => 125 | 2 => 2 | 168 => 127 | 53 => 111 | 175 => 138 | 46 => 135 | 210 => 142 | 127 => 101 | 145 => 155 | 143 => 153 | 21 => 21 | 171 => 110 | 173 => 114 | 212 => 131 | 51 => 132 | 20 => 20 | 213 => 133 | 232 => 156 | 233 => 157 | 80 => 93 | n => n, fun | 15 => 2 | 16 => 3 | 17 => 0 | 18 => 6 | 19 => 7 | n => n⟩
theorem Tryz.laysC172 : Go.Proofs.LaysC.n172 prog Tryz.laysC172_ren := {
 mixed := by kernel_rfl
 f129 := Tryz.func93.trans (congrArg some (by kernel_rfl))
 f171 := Tryz.func28.trans (congrArg some (by kernel_rfl))
 f172 := Tryz.func63.trans (congrArg some (by kernel_rfl))
 f205 := Tryz.func101.trans (congrArg some (by kernel_rfl))
 f243 := Tryz.func53.trans (congrArg some (by kernel_rfl))
 f244 := Tryz.func75.trans (congrArg some (by kernel_rfl))
 f245 := Tryz.func76.trans (congrArg some (by kernel_rfl))
 f246 := Tryz.func67.trans (congrArg some (by kernel_rfl))
 f247 := Tryz.func87.trans (congrArg some (by kernel_rfl))
 f279 := Tryz.func88.trans (congrArg some (by kernel_rfl))
 f280 := Tryz.func89.trans (congrArg some (by kernel_rfl))
 f281 := Tryz.func90.trans (congrArg some (by kernel_rfl))
 f282 := Tryz.func91.trans (congrArg some (by kernel_rfl))
 f283 := Tryz.func77.trans (congrArg some (by kernel_rfl))
 f284 := Tryz.func78.trans (congrArg some (by kernel_rfl))
 f285 := Tryz.func79.trans (congrArg some (by kernel_rfl))
 f286 := Tryz.func80.trans (congrArg some (by kernel_rfl))
 f287 := Tryz.func99.trans (congrArg some (by kernel_rfl))
 f316 := Tryz.func100.trans (congrArg some (by kernel_rfl))
 f317 := Tryz.func92.trans (congrArg some (by kernel_rfl))
 f318 := Tryz.func94.trans (congrArg some (by kernel_rfl))
 f319 := Tryz.func95.trans (congrArg some (by kernel_rfl))
 f320 := Tryz.func96.trans (congrArg some (by kernel_rfl))
 f321 := Tryz.func108.trans (congrArg some (by kernel_rfl))
 f322 := Tryz.func109.trans (congrArg some (by kernel_rfl))
 f337 := Tryz.func102.trans (congrArg some (by kernel_rfl))
 f338 := Tryz.func103.trans (congrArg some (by kernel_rfl))
 t0 := Tryz.underlying0
 a0 := Tryz.isAgg0
 z0 := Tryz.sizeOf0
 v0 := Tryz.zeroValue0
 t2 := Tryz.underlying2
 a2 := Tryz.isAgg2
 z2 := Tryz.sizeOf2
 v2 := Tryz.zeroValue2
 t3 := Tryz.underlying3
 a3 := Tryz.isAgg3
 z3 := Tryz.sizeOf3
 v3 := Tryz.zeroValue3
 t4 := Tryz.underlying4
 a4 := Tryz.isAgg4
 z4 := Tryz.sizeOf4
 v4 := Tryz.zeroValue4
 t5 := Tryz.underlying5
 a5 := Tryz.isAgg5
 z5 := Tryz.sizeOf5
 v5 := Tryz.zeroValue5
 t9 := Tryz.underlying9
 a9 := Tryz.isAgg9
 z9 := Tryz.sizeOf9
 v9 := Tryz.zeroValue9
 t20 := Tryz.underlying20
 a20 := Tryz.isAgg20
 z20 := Tryz.sizeOf20
 v20 := Tryz.zeroValue20
 t21 := Tryz.underlying21
 a21 := Tryz.isAgg21
 z21 := Tryz.sizeOf21
 v21 := Tryz.zeroValue21
 t37 := Tryz.underlying85
 a37 := Tryz.isAgg85
 z37 := Tryz.sizeOf85
 v37 := Tryz.zeroValue85
 t46 := Tryz.underlying135
 a46 := Tryz.isAgg135
 z46 := Tryz.sizeOf135
 v46 := Tryz.zeroValue135
 t51 := Tryz.underlying132
 a51 := Tryz.isAgg132
 z51 := Tryz.sizeOf132
 v51 := Tryz.zeroValue132
 t53 := Tryz.underlying111
 a53 := Tryz.isAgg111
 z53 := Tryz.sizeOf111
 v53 := Tryz.zeroValue111
 t75 := Tryz.underlying90
 a75 := Tryz.isAgg90
 z75 := Tryz.sizeOf90
 v75 := Tryz.zeroValue90
 t76 := Tryz.underlying91
 a76 := Tryz.isAgg91
 z76 := Tryz.sizeOf91
 v76 := Tryz.zeroValue91
 t85 := Tryz.underlying125
 a85 := Tryz.isAgg125
 z85 := Tryz.sizeOf125
 v85 := Tryz.zeroValue125
 t127 := Tryz.underlying101
 a127 := Tryz.isAgg101
 z127 := Tryz.sizeOf101
 v127 := Tryz.zeroValue101
 t143 := Tryz.underlying153
 a143 := Tryz.isAgg153
 z143 := Tryz.sizeOf153
 v143 := Tryz.zeroValue153
 t145 := Tryz.underlying155
 a145 := Tryz.isAgg155
 z145 := Tryz.sizeOf155
 v145 := Tryz.zeroValue155
 t167 := Tryz.underlying124
 a167 := Tryz.isAgg124
 z167 := Tryz.sizeOf124
 v167 := Tryz.zeroValue124
 t168 := Tryz.underlying127
 a168 := Tryz.isAgg127
 z168 := Tryz.sizeOf127
 v168 := Tryz.zeroValue127
 t171 := Tryz.underlying110
 a171 := Tryz.isAgg110
 z171 := Tryz.sizeOf110
 v171 := Tryz.zeroValue110
 t173 := Tryz.underlying114
 a173 := Tryz.isAgg114
 z173 := Tryz.sizeOf114
 v173 := Tryz.zeroValue114
 t175 := Tryz.underlying138
 a175 := Tryz.isAgg138
 z175 := Tryz.sizeOf138
 v175 := Tryz.zeroValue138
 t210 := Tryz.underlying142
 a210 := Tryz.isAgg142
 z210 := Tryz.sizeOf142
 v210 := Tryz.zeroValue142
 t212 := Tryz.underlying131
 a212 := Tryz.isAgg131
 z212 := Tryz.sizeOf131
 v212 := Tryz.zeroValue131
 t213 := Tryz.underlying133
 a213 := Tryz.isAgg133
 z213 := Tryz.sizeOf133
 t232 := Tryz.underlying156
 a232 := Tryz.isAgg156
 z232 := Tryz.sizeOf156
 v232 := Tryz.zeroValue156
 t233 := Tryz.underlying157
 a233 := Tryz.isAgg157
 z233 := Tryz.sizeOf157
 v233 := Tryz.zeroValue157
 g15 := by kernel_rfl
 g16 := by kernel_rfl
 g17 := by kernel_rfl
 g18 := by kernel_rfl
 g19 := by kernel_rfl
 t80 := Tryz.underlying93
 a80 := Tryz.isAgg93
 z80 := Tryz.sizeOf93
 v80 := Tryz.zeroValue93
 i0 := by kernel_rfl
 i2 := by kernel_rfl
 i3 := by kernel_rfl
 i4 := by kernel_rfl
 i5 := by kernel_rfl
 i9 := by kernel_rfl
 i20 := by kernel_rfl
 i21 := by kernel_rfl
 i37 := by kernel_rfl
 i46 := by kernel_rfl
 i51 := by kernel_rfl
 i53 := by kernel_rfl
 i75 := by kernel_rfl
 i76 := by kernel_rfl
 i80 := by kernel_rfl
 i85 := by kernel_rfl
 i127 := by kernel_rfl
 i143 := by kernel_rfl
 i145 := by kernel_rfl
 i167 := by kernel_rfl
 i168 := by kernel_rfl
 i171 := by kernel_rfl
 i173 := by kernel_rfl
 i175 := by kernel_rfl
 i210 := by kernel_rfl
 i212 := by kernel_rfl
 i232 := by kernel_rfl
 i233 := by kernel_rfl
 m15 := by kernel_rfl
 m16 := by kernel_rfl
 m17 := by kernel_rfl
 m18 := by kernel_rfl
 m19 := by kernel_rfl
 c0 := by kernel_rfl
 c2 := by kernel_rfl
 c3 := by kernel_rfl
 c4 := by kernel_rfl
 c5 := by kernel_rfl
 c9 := by kernel_rfl
 c20 := by kernel_rfl
 c21 := by kernel_rfl
 c37 := by kernel_rfl
 c46 := by kernel_rfl
 c51 := by kernel_rfl
 c53 := by kernel_rfl
 c75 := by kernel_rfl
 c76 := by kernel_rfl
 c80 := by kernel_rfl
 c85 := by kernel_rfl
 c127 := by kernel_rfl
 c143 := by kernel_rfl
 c145 := by kernel_rfl
 c167 := by kernel_rfl
 c168 := by kernel_rfl
 c171 := by kernel_rfl
 c173 := by kernel_rfl
 c175 := by kernel_rfl
 c210 := by kernel_rfl
 c212 := by kernel_rfl
 c213 := by kernel_rfl
 c232 := by kernel_rfl
 c233 := by kernel_rfl }
open Go.RowKit in
theorem Tryz.strconv_Atoi_ok (s : ByteArray) (hmax : s.size ≤ 9223372036854775806) (v : Int) (h : Lib.atoiAll s.data.toList = .ok v) (w : World) :
  Calls prog 63 #[.string s] w fun e w' => e = .returned (.tuple #[.int .i64 v, .nilIface]) ∧ (w' = w ∨ ∃ t, w' = Lib.bytesWorld w 5 t) := Any.strconv_Atoi_ok Tryz.laysC172 s hmax v h w
open Go.RowKit in
theorem Tryz.strconv_Atoi_syntax (s : ByteArray) (hlim : s.size ≤ 281474976710656) (h : (∀ n, Lib.atoiAll s.data.toList ≠ .ok n) ∧ Lib.atoiAll s.data.toList ≠ .range) (ev : Value) (w : World) (hv : w.cell? ⟨2, 0, none⟩ = some ev) (hev : ev = .nilIface ∨ ∃ te pe, ev = .iface te pe) :
  Calls prog 63 #[.string s] w fun e w' => ∃ N, e = .returned (.tuple #[.int .i64 (0), .iface 127 (.pointer (some ⟨N, 0, none⟩))]) ∧ w.heap.size ≤ N ∧ w'.heap[N]? = some (.cells #[.string ⟨#[65, 116, 111, 105]⟩, .string s, ev] 142 (0, 0)) ∧ Below w.heap.size w w' := by
 cases hq : Lib.atoiAll s.data.toList with
 | ok n => exact (h.1 n hq).elim
 | range => exact (h.2 hq).elim
 | _ => exact Any.strconv_Atoi_syntax Tryz.laysC172 s hlim hq ev w hv hev
open Go.RowKit in
theorem Tryz.strconv_Atoi_range (s : ByteArray) (hlim : s.size ≤ 281474976710656) (h : Lib.atoiAll s.data.toList = .range) (ev : Value) (w : World) (hv : w.cell? ⟨3, 0, none⟩ = some ev) (hev : ev = .nilIface ∨ ∃ te pe, ev = .iface te pe) :
  Calls prog 63 #[.string s] w fun e w' => ∃ N, e = .returned (.tuple #[.int .i64 (Lib.atoiSat s.data.toList), .iface 127 (.pointer (some ⟨N, 0, none⟩))]) ∧ w.heap.size ≤ N ∧ w'.heap[N]? = some (.cells #[.string ⟨#[65, 116, 111, 105]⟩, .string s, ev] 142 (0, 0)) ∧ Below w.heap.size w w' := Any.strconv_Atoi_range Tryz.laysC172 s hlim h ev w hv hev
open Go.RowKit in
theorem Tryz.strings_TrimLeft_laid (s cutset : ByteArray) (w : World) (hcs : cutset.size < 4294967281) (hascii : ∀ (j : Nat) b, cutset.data.toList[j]? = some b → b.toNat < 128) :
  Calls prog 62 #[.string s, .string cutset] w fun e w' => e = .returned (.string ⟨(Lib.trimLeftS s.data.toList cutset.data.toList).toArray⟩) ∧ Below w.heap.size w w' := Any.strings_TrimLeft_laid Tryz.lays161 (by kernel_rfl) s cutset w hcs hascii
end Go.Proofs
end
section
namespace Go.Mp
def get {κ β : Type} (eq : κ → κ → Bool) (x : κ) : List (κ × β) → Option β
 | [] => none
 | p :: r => if eq x p.1 = true then some p.2 else get eq x r
def put {κ β : Type} (eq : κ → κ → Bool) (x : κ) (y : β) : List (κ × β) → List (κ × β)
 | [] => [(x, y)]
 | p :: r => if eq x p.1 = true then (x, y) :: r else p :: put eq x y r
def ins {κ β : Type} (lt : κ → κ → Bool) (x : κ) (y : β) : List (κ × β) → List (κ × β)
 | [] => [(x, y)]
 | p :: r => if lt x p.1 = true then (x, y) :: p :: r else p :: ins lt x y r
def set {κ β : Type} (eq lt : κ → κ → Bool) (x : κ) (y : β) (l : List (κ × β)) : List (κ × β) := if l.any (fun p => eq x p.1) = true then put eq x y l else ins lt x y l
theorem put_new {κ β : Type} {eq : κ → κ → Bool} {x : κ} {y : β} : ∀ {l : List (κ × β)}, l.any (fun p => eq x p.1) = false → put eq x y l = l ++ [(x, y)]
 | [], _ => rfl
 | p :: r, h => by
  rw [List.any_cons, Bool.or_eq_false_iff] at h
  rw [put, h.1, if_neg (by decide), put_new h.2]; rfl
theorem ins_perm {κ β : Type} {lt : κ → κ → Bool} {x : κ} {y : β} : ∀ l : List (κ × β), (ins lt x y l).Perm ((x, y) :: l)
 | [] => .refl _
 | p :: r => by
  rw [ins]
  split
  ·exact .refl _
  ·exact ((ins_perm r).cons p).trans (.swap _ _ _)
theorem set_perm {κ β : Type} (eq lt : κ → κ → Bool) (x : κ) (y : β) (l : List (κ × β)) : (set eq lt x y l).Perm (put eq x y l) := by
 unfold set
 split
 ·exact .refl _
 ·rename_i h
  rw [put_new (by simpa using h)]
  exact (ins_perm l).trans (List.perm_append_singleton _ _).symm
def ieq (a b : Int) : Bool := a == b
def beq (a b : Bool) : Bool := a == b
def seq (a b : ByteArray) : Bool := a == b
def ilt (a b : Int) : Bool := decide (a < b)
def blt (a b : Bool) : Bool := !a && b
def lex : List UInt8 → List UInt8 → Bool
 | [], [] => false
 | [], _ :: _ => true
 | _ :: _, [] => false
 | a :: r, b :: s => if a.toNat < b.toNat then true else if b.toNat < a.toNat then false else lex r s
def slt (a b : ByteArray) : Bool := lex a.data.toList b.data.toList
end Go.Mp
namespace Go.Tx
open Go.Awp
variable [Inhabited GMem]
inductive Ty (ι : Type) where
 | int (k : IntKind)
 | bool
 | str
 | st (i : ι)
 | sl (e : Ty ι)
 | mp (k v : Ty ι)
 | er
 deriving DecidableEq
@[reducible] def den {ι : Type} (N : ι → Type) : Ty ι → Type
 | .int _ => Int
 | .bool => Bool
 | .str => ByteArray
 | .st i => N i
 | .sl e => List (den N e)
 | .mp k v => List (den N k × den N v)
 | .er => Bool
structure Leaf {ι : Type} (N : ι → Type) where
 t : Ty ι
 x : den N t
section
variable {ι : Type} {N : ι → Type} (sz : ι → Nat) (enc : (i : ι) → N i → List D)
def tsz : Ty ι → Nat
 | .st i => sz i
 | _ => 1
def encR : (t : Ty ι) → den N t → List D
 | .int k, n => [.v (.int k n)]
 | .bool, b => [.v (.bool b)]
 | .str, s => [.v (.string s)]
 | .st i, x => enc i x
 | .sl e, xs => [.sl (tsz sz e) (xs.map fun x => encR e x)]
 | .mp _ _, _ => [.v (.map none)]
 | .er, b => [.er b]
def encD : (t : Ty ι) → den N t → D
 | .int k, n => .v (.int k n)
 | .bool, b => .v (.bool b)
 | .str, s => .v (.string s)
 | .st i, x => .agg (enc i x)
 | .sl e, xs => .sl (tsz sz e) (xs.map fun x => encR sz enc e x)
 | .mp _ _, _ => .v (.map none)
 | .er, b => .er b
end
def encK {ι : Type} {N : ι → Type} : (t : Ty ι) → den N t → Value
 | .int k, n => .int k n
 | .bool, b => .bool b
 | .str, s => .string s
 | _, _ => .map none
def Ty.cell {ι : Type} : Ty ι → Bool
 | .st _ => false
 | _ => true
structure View where
 ι : Type
 dec : DecidableEq ι
 N : ι → Type
 sz : ι → Nat
 tys : ι → List (Ty ι)
 cells : (i : ι) → N i → List (Leaf N)
 ofCells : (i : ι) → List (Leaf N) → Option (N i)
 enc : (i : ι) → N i → List D
 ty : TypeId → Option (Ty ι)
 enc_cells : ∀ i x, enc i x = (cells i x).map fun l => encD sz enc l.t l.x
 of_cells : ∀ i ls x, ofCells i ls = some x → cells i x = ls
 len_cells : ∀ i x, (cells i x).length = sz i
 one_cells : ∀ i x, ∀ l ∈ cells i x, l.t.cell = true
instance (V : View) : DecidableEq V.ι := V.dec
inductive TV {ι : Type} (N : ι → Type) where
 | lf (t : Ty ι) (x : den N t)
 | raw (v : Value)
 | bp (n off : Nat)
 | vh (n : Nat)
 | ep (n sz i off : Nat)
 | mp (n : Nat)
 | np (n : Nat) (b : Bool)
 | sd (n : Nat)
 | rp (t : Ty ι) (x : den N t) (off : Nat)
 | agg (cs : List (TV N))
 | tup (vs : List (TV N))
 | fn (f : Nat) (a b : List (TV N))
 | junk
inductive TO {ι : Type} (N : ι → Type) where
 | box (o : Option TypeId) (cells : List (TV N))
 /-- a box that holds a struct whole -/
 | bst (i : ι) (x : N i)
 | vec (te : TypeId) (e : Ty ι) (xs : List (den N e))
 | map (k v : Ty ι) (es : List (den N k × den N v))
 | iter (s : ByteArray) (p : Int)
 /-- a map through which a loop goes: its name, what it holds, what is left, what came last -/
 | miter (m : Nat) (k v : Ty ι) (es rest : List (den N k × den N v)) (cur : Option (den N k × den N v))
 /-- no longer owned: how long it was -/
 | gone (len : Nat)
structure TS {ι : Type} (N : ι → Type) where
 tmps : List (Nat × TV N)
 own : List (Nat × TO N)
section
variable {ι : Type} {N : ι → Type}
def TS.own? (S : TS N) (n : Nat) : Option (TO N) := gt S.own n
def TS.get (S : TS N) (t : Nat) : TV N := (gt S.tmps t).getD .junk
def TO.len : Option (TO N) → Nat
 | some (.vec _ _ xs) => xs.length
 | some (.gone l) => l
 | _ => 0
def TS.len (S : TS N) (n : Nat) : Nat := TO.len (S.own? n)
mutual
def TV.has (n : Nat) : TV N → Bool
 | .bp m _ => Nat.beq m n
 | .vh m => Nat.beq m n
 | .ep m _ _ _ => Nat.beq m n
 | .mp m => Nat.beq m n
 | .np m _ => Nat.beq m n
 | .sd m => Nat.beq m n
 | .agg cs => TV.hasL n cs
 | .tup vs => TV.hasL n vs
 | .fn _ a b => TV.hasL n a || TV.hasL n b
 | _ => false
def TV.hasL (n : Nat) : List (TV N) → Bool
 | [] => false
 | x :: r => TV.has n x || TV.hasL n r
end
def TO.has (n : Nat) : TO N → Bool
 | .box _ cells => TV.hasL n cells
 | .miter m _ _ _ _ _ => Nat.beq m n
 | _ => false
def TS.fresh (S : TS N) (n : Nat) : Bool :=
 (S.own? n).isNone && S.tmps.all (fun x => !TV.has n x.2) && S.own.all (fun x => !TO.has n x.2)
end
section
variable (V : View)
def encRaw : Value → H
 | .agg cs => .d (.agg (cs.toList.map .v))
 | v => .d (.v v)
mutual
def encV (ω : Nat → Nat) : TV V.N → H
 | .lf t x => .d (encD V.sz V.enc t x)
 | .raw v => encRaw v
 | .bp n off => .bp n off
 | .vh n => .vh n (ω n)
 | .ep n s i off => .ep n s i off
 | .mp n => .mp n
 | .np n b => .np n b
 | .sd n => .sd n
 | .rp t x off => .d (.rp ((encR V.sz V.enc t x).drop off))
 | .agg cs => mkAgg (encL ω cs)
 | .tup vs => .tup (encL ω vs)
 | .fn f a b => .fn f (encL ω a) (encL ω b)
 | .junk => .junk
def encL (ω : Nat → Nat) : List (TV V.N) → List H
 | [] => []
 | x :: r => encV ω x :: encL ω r
end
def encO (ω : Nat → Nat) : TO V.N → Option Own
 | .box o cells => some (.box o (encL V ω cells))
 | .bst i x => some (.box none ((V.enc i x).map .d))
 | .vec te e xs => some (.vec te (tsz V.sz e) (xs.map fun x => encR V.sz V.enc e x))
 | .map k v es => some (.map (es.map fun p => (encK k p.1, encD V.sz V.enc v p.2)))
 | .iter s p => some (.iter s p.toNat)
 | .miter m k v es rest cur => some (.miter m (es.map fun p => (encK k p.1, encD V.sz V.enc v p.2)) (rest.map fun p => (encK k p.1, encD V.sz V.enc v p.2)) (cur.map fun p => (encK k p.1, encD V.sz V.enc v p.2)))
 | .gone _ => none
def encS (S : TS V.N) : AState :=
 { tmps := S.tmps.map fun p => (p.1, encV V S.len p.2), own := S.own.map fun p => (p.1, encO V S.len p.2) }
variable {V}
theorem encL_map (ω : Nat → Nat) (l : List (TV V.N)) : encL V ω l = l.map (encV V ω) := by
 induction l with
 | nil => rfl
 | cons x r ih => simp [encL, ih]
theorem allD_has {n : Nat} : ∀ {l : List H} {ds : List D}, allD l = some ds → H.hasL n l = false
 | [], _, _ => by simp [H.hasL]
 | .d x :: r, ds, h => by
  simp only [allD] at h
  split at h
  ·rename_i l hl
   simp [H.hasL, H.has, allD_has hl]
  ·cases h
 | .junk :: r, ds, h => by simp [allD] at h
 | .bp .. :: r, ds, h => by simp [allD] at h
 | .vh .. :: r, ds, h => by simp [allD] at h
 | .ep .. :: r, ds, h => by simp [allD] at h
 | .mp .. :: r, ds, h => by simp [allD] at h
 | .np .. :: r, ds, h => by simp [allD] at h
 | .sd .. :: r, ds, h => by simp [allD] at h
 | .agg .. :: r, ds, h => by simp [allD] at h
 | .tup .. :: r, ds, h => by simp [allD] at h
 | .fn .. :: r, ds, h => by simp [allD] at h
theorem mkAgg_has (n : Nat) (l : List H) : H.has n (mkAgg l) = H.hasL n l := by
 unfold mkAgg
 split
 ·rename_i ds h; rw [allD_has h]; simp [H.has]
 ·simp [H.has]
theorem encRaw_has (n : Nat) (v : Value) : H.has n (encRaw v) = false := by
 cases v <;> simp [encRaw, H.has]
mutual
theorem encV_has (ω : Nat → Nat) (n : Nat) : ∀ v : TV V.N, H.has n (encV V ω v) = TV.has n v
 | .lf t x => by simp [encV, H.has, TV.has]
 | .raw v => by simp [encV, TV.has, encRaw_has]
 | .bp m off => by simp [encV, H.has, TV.has]
 | .vh m => by simp [encV, H.has, TV.has]
 | .ep m s i off => by simp [encV, H.has, TV.has]
 | .mp m => by simp [encV, H.has, TV.has]
 | .np m b => by simp [encV, H.has, TV.has]
 | .sd m => by simp [encV, H.has, TV.has]
 | .rp t x off => by simp [encV, H.has, TV.has]
 | .agg cs => by simp only [encV, mkAgg_has, TV.has]; exact encL_has ω n cs
 | .tup vs => by simp only [encV, H.has, TV.has]; exact encL_has ω n vs
 | .fn f a b => by simp only [encV, H.has, TV.has]; rw [encL_has ω n a, encL_has ω n b]
 | .junk => by simp [encV, H.has, TV.has]
theorem encL_has (ω : Nat → Nat) (n : Nat) : ∀ l : List (TV V.N), H.hasL n (encL V ω l) = TV.hasL n l
 | [] => by simp [encL, H.hasL, TV.hasL]
 | x :: r => by simp only [encL, H.hasL, TV.hasL]; rw [encV_has ω n x, encL_has ω n r]
end
theorem encO_has (ω : Nat → Nat) (n : Nat) {o : TO V.N} {o' : Own} (h : encO V ω o = some o') : Own.has n o' = TO.has n o := by
 cases o with
 | box oty cells => simp only [encO, Option.some.injEq] at h; subst h; simp only [Own.has, TO.has]; exact encL_has ω n cells
 | bst i x =>
  simp only [encO, Option.some.injEq] at h; subst h; simp only [Own.has, TO.has]
  generalize V.enc i x = l
  induction l with
  | nil => simp [H.hasL]
  | cons y r ih => simpa [H.hasL, H.has] using ih
 | vec te e xs => simp only [encO, Option.some.injEq] at h; subst h; simp [Own.has, TO.has]
 | map k v es => simp only [encO, Option.some.injEq] at h; subst h; simp [Own.has, TO.has]
 | iter s p => simp only [encO, Option.some.injEq] at h; subst h; simp [Own.has, TO.has]
 | miter m k v es rest cur => simp only [encO, Option.some.injEq] at h; subst h; simp [Own.has, TO.has]
 | gone l => simp [encO] at h
theorem encS_own? (S : TS V.N) (n : Nat) : (encS V S).own? n = (S.own? n).bind (encO V S.len) := by
 unfold AState.own? TS.own? encS
 simp only [gt_map]
 cases gt S.own n with
 | none => rfl
 | some x => rfl
theorem encS_get (S : TS V.N) (t : Nat) : (encS V S).get t = encV V S.len (S.get t) := by
 unfold AState.get TS.get encS
 simp only [gt_map]
 cases gt S.tmps t with
 | none => simp [encV]
 | some x => rfl
theorem encS_gt (S : TS V.N) (t : Nat) : gt (encS V S).tmps t = (gt S.tmps t).map (encV V S.len) := by
 unfold encS
 simp only [gt_map]
theorem encS_fresh {S : TS V.N} {n : Nat} (h : S.fresh n = true) : (encS V S).fresh n = true := by
 unfold TS.fresh at h
 unfold AState.fresh
 rw [encS_own?]
 simp only [Bool.and_eq_true] at h ⊢
 obtain ⟨⟨h1, h2⟩, h3⟩ := h
 refine ⟨⟨?_, ?_⟩, ?_⟩
 ·cases hq : S.own? n with
  | none => rfl
  | some o => rw [hq] at h1; cases h1
 ·unfold encS
  simp only [List.all_map]
  rw [List.all_eq_true] at h2 ⊢
  intro x hx
  have := h2 x hx
  simpa [encV_has] using this
 ·unfold encS
  simp only [List.all_map]
  rw [List.all_eq_true] at h3 ⊢
  intro x hx
  have := h3 x hx
  simp only [Function.comp]
  cases hq : encO V S.len x.2 with
  | none => rfl
  | some o => simp only [encO_has S.len n hq]; exact this
mutual
theorem encV_congr {ω ω' : Nat → Nat} : ∀ v : TV V.N, (∀ n, TV.has n v = true → ω' n = ω n) → encV V ω' v = encV V ω v
 | .lf t x, _ => by simp [encV]
 | .raw v, _ => by simp [encV]
 | .bp m off, _ => by simp [encV]
 | .vh m, h => by simp [encV, h m (by simp [TV.has])]
 | .ep m s i off, _ => by simp [encV]
 | .mp m, _ => by simp [encV]
 | .np m b, _ => by simp [encV]
 | .sd m, _ => by simp [encV]
 | .rp t x off, _ => by simp [encV]
 | .agg cs, h => by simp only [encV]; rw [encL_congr cs fun n hn => h n (by simpa [TV.has] using hn)]
 | .tup vs, h => by simp only [encV]; rw [encL_congr vs fun n hn => h n (by simpa [TV.has] using hn)]
 | .fn f a b, h => by simp only [encV]; rw [encL_congr a fun n hn => h n (by simp [TV.has, hn]), encL_congr b fun n hn => h n (by simp [TV.has, hn])]
 | .junk, _ => by simp [encV]
theorem encL_congr {ω ω' : Nat → Nat} : ∀ l : List (TV V.N), (∀ n, TV.hasL n l = true → ω' n = ω n) → encL V ω' l = encL V ω l
 | [], _ => rfl
 | x :: r, h => by
  simp only [encL]
  rw [encV_congr x fun n hn => h n (by simp [TV.hasL, hn]), encL_congr r fun n hn => h n (by simp [TV.hasL, hn])]
end
theorem encO_congr {ω ω' : Nat → Nat} (o : TO V.N) (h : ∀ n, TO.has n o = true → ω' n = ω n) : encO V ω' o = encO V ω o := by
 cases o with
 | box oty cells => simp only [encO]; rw [encL_congr cells h]
 | bst i x => rfl
 | vec te e xs => rfl
 | map k v es => rfl
 | iter s p => rfl
 | miter m k v es rest cur => rfl
 | gone l => rfl
end
end Go.Tx
end
