/-
  Texts of this claim, joined by a program of mine: what the theorem uses.
-/
import Derived.Test.YtpelkenpapfadaaGreatDoorPkA
import Derived.MapKept
import Derived.Maps.RangeRun
import Derived.Lib.AppendStr
import Derived.Lib.UnsafeStr
import Derived.Lib.FrozenHead
import Derived.ArgAppend
set_option linter.unusedSectionVars false
set_option linter.unusedSimpArgs false
section
namespace Go.Awp
variable [Inhabited GMem]
theorem run_append_at {P : Program} {w : World} (t ty e : TypeId) (i : TypeInfo) (z : Value) (size bytes : Nat) (ht : P.underlying t = some (.slice e)) (hi : P.info? e = some i) (hz : i.zero = some z)
  (hsize : i.size = size) (hby : i.bytes = bytes) (hzs : z.cells.size = size) (hsz : 0 < size) (v : Value) (n : Nat) (xs : List Value) (hown : w.ownsRow 0 e size v n xs)
  (x : Value) (news : List Value) (m : Nat) (hl : news.length = m * size) (hx : (x = .slice none 0 0 ∧ m = 0) ∨ ∃ a c, x = .slice (some a) m c ∧ ∀ (j : Nat) u, news[j]? = some u → w.cell? (a.add j) = some u)
  (h1 : ∀ u ∈ news, u.oneCell' = true) (h63 : n + m ≤ 1000000000000) (hbytes : (n + m) * bytes ≤ 140737488355328) :
  ∃ v' w', (Builtin.append_ #[t, t] ty #[v, x]).run P w = .ok v' w' ∧ w'.ownsRow 0 e size v' (n + m) (xs ++ news) ∧ w.grownBy w' (blockOf v) ∧
   ∀ b, blockOf v' = some b → blockOf v = some b ∨ w.heap.size ≤ b := by
 have hb : blockOf v = v.ownBlock := by
  rcases hown.2 with ⟨rfl, _⟩ | ⟨g, cap, cur, rfl, _⟩ <;> rfl
 rcases hx with ⟨rfl, rfl⟩ | ⟨a, c, rfl, hnews⟩
 ·have hn0 : news = [] := List.eq_nil_of_length_eq_zero (by simpa using hl)
  subst hn0
  refine ⟨v, w, run_append_owned_none (P := P) w 0 t ty e i size ht hi v n xs hown, by simpa using hown, ⟨rfl, rfl, rfl, Nat.le_refl _, fun _ _ _ => rfl⟩, fun b hb => .inl hb⟩
 ·have hmax : n + m ≤ maxLen := by unfold maxLen; omega
  obtain ⟨v', w', e1, e2, e3, _⟩ := run_append_own (P := P) w 0 t ty e i z size bytes ht hi hz hsize hby hzs hsz v n xs hown a m c news hl hnews h1 hmax hbytes (Nat.zero_le _)
  refine ⟨v', w', e1, e2, by rw [hb]; exact e3, fun b hbv => ?_⟩
  rcases hown.2 with ⟨rfl, rfl⟩ | ⟨g, cap, cur, rfl, hbg, hg, hnc, hcm, hcs, htake⟩
  ·obtain ⟨v2, w2, f1, f2, _⟩ := run_append_own (P := P) w w.heap.size t ty e i z size bytes ht hi hz hsize hby hzs hsz (.slice none 0 0) 0 [] (World.ownsRow_nil w _ e size) a m c news hl hnews h1 hmax hbytes (Nat.le_refl _)
   rw [e1] at f1
   simp only [Result.ok.injEq] at f1
   obtain ⟨rfl, rfl⟩ := f1
   right
   rcases f2.2 with ⟨hn, _⟩ | ⟨g2, cap2, cur2, hv2, hb2, _⟩
   ·rw [hn] at hbv; simp [blockOf] at hbv
   ·rw [hv2] at hbv; simp [blockOf] at hbv; omega
  ·by_cases hroom : n + m ≤ cap
   ·obtain ⟨w2, f1, _⟩ := run_append_fits (P := P) w 0 t ty e i size ht hi hsize g n cap xs hown a m c news hl hnews h1 hroom
    rw [e1] at f1
    simp only [Result.ok.injEq] at f1
    obtain ⟨rfl, _⟩ := f1
    left; simpa [blockOf] using hbv
   ·subst hsize; subst hby
    have holds : ∀ j u, xs[j]? = some u → w.cell? ((⟨g, 0, none⟩ : Addr).add j) = some u := hown.cells (g := g) rfl
    have f1 := run_append_grow (P := P) w t ty e i z ht hi hz ⟨g, 0, none⟩ n cap xs hown.1 holds a m c news hl hnews (by omega) (by omega) (growslice_fits (by omega) hbytes)
    rw [e1] at f1
    simp only [Result.ok.injEq] at f1
    obtain ⟨rfl, _⟩ := f1
    right; simp [blockOf] at hbv; omega
theorem DRep.sl_cells {M : Mem} {v : Value} {sz : Nat} {rows : List (List D)} (h : DRep M v (.sl sz rows)) :
  (v = .slice none 0 0 ∧ rows = []) ∨ (∃ a cap, v = .slice (some a) 0 cap ∧ rows = []) ∨ ∃ b off cap, v = .slice (some ⟨b, off, none⟩) rows.length cap ∧ rows.length ≤ cap ∧ ∃ cs : List Value, cs.length = rows.length * sz ∧
    (∀ (k : Nat) u, cs[k]? = some u → M b (off + k) = some u) ∧ (∀ r ∈ rows, r.length = sz) ∧
    ∀ (i j : Nat) (r : List D) (c : Value) (x : D), rows[i]? = some r → r[j]? = some x → cs[i * sz + j]? = some c → DRep M c x := by
 cases h with
 | slnil sz => exact .inl ⟨rfl, rfl⟩
 | slmt a cap sz => exact .inr (.inl ⟨a, cap, rfl, rfl⟩)
 | sl b off len cap sz rows c hlen hcap hsz hm hc =>
  subst hlen
  refine .inr (.inr ⟨b, off, cap, rfl, hcap, (List.range (rows.length * sz)).map c, by simp, fun k u hu => ?_, hsz, fun i j r c' x hr hx hcc => ?_⟩)
  ·simp only [List.getElem?_map] at hu
   by_cases hk : k < rows.length * sz
   ·rw [List.getElem?_range hk] at hu
    simp at hu; subst hu; exact hm k hk
   ·rw [List.getElem?_eq_none (by simp; omega)] at hu; cases hu
  ·simp only [List.getElem?_map] at hcc
   by_cases hk : i * sz + j < rows.length * sz
   ·rw [List.getElem?_range hk] at hcc
    simp at hcc; subst hcc; exact hc i j r x hr hx
   ·rw [List.getElem?_eq_none (by simp; omega)] at hcc; cases hcc
theorem run_checkKey_simple {P : Program} {w : World} {kt : TypeId} {kind : TypeDesc} (hu : P.underlying kt = some kind) (hs : simpleKey kind = true) (e : Bool) (v : Value) : (Instr.checkKey e 10000 kt v).run P w = .ok () w := by
 unfold Instr.checkKey
 simp only [Sem.run_bind, run_underlying hu, Result.andThen_ok]
 cases kind <;> simp [simpleKey] at hs <;> rfl
def MRep (M : Mem) : List MapEntry → List (Value × D) → Prop
 | [], [] => True
 | e :: r, p :: s => (e.key = p.1 ∧ DRep M e.val p.2) ∧ MRep M r s
 | _, _ => False
theorem MRep.of {M : Mem} : ∀ {l : List MapEntry} {es : List (Value × D)}, l.length = es.length → (∀ (i : Nat) (e : MapEntry) (p : Value × D), l[i]? = some e → es[i]? = some p → e.key = p.1 ∧ DRep M e.val p.2) → MRep M l es
 | [], [], _, _ => trivial
 | [], _ :: _, h, _ => by simp at h
 | _ :: _, [], h, _ => by simp at h
 | e :: r, p :: s, h, hp => ⟨hp 0 e p rfl rfl, MRep.of (by simpa using h) fun i e' p' he hp' => hp (i + 1) e' p' (by simpa using he) (by simpa using hp')⟩
theorem MRep.get {M : Mem} : ∀ {l : List MapEntry} {es : List (Value × D)}, MRep M l es → l.length = es.length ∧ ∀ (i : Nat) (e : MapEntry) (p : Value × D), l[i]? = some e → es[i]? = some p → e.key = p.1 ∧ DRep M e.val p.2
 | [], [], _ => ⟨rfl, fun i e p he => by simp at he⟩
 | [], _ :: _, h => h.elim
 | _ :: _, [], h => h.elim
 | e :: r, p :: s, h => by
  obtain ⟨h1, h2⟩ := h.2.get
  refine ⟨by simp [h1], fun i e' p' he hp => ?_⟩
  cases i with
  | zero => simp at he hp; subst he; subst hp; exact h.1
  | succ i => exact h2 i e' p' (by simpa using he) (by simpa using hp)
theorem sameNow_eq {kind : TypeDesc} {a b : Value} (h : Instr.sameNow kind a b = some true) : a = b := by
 unfold Instr.sameNow at h
 split at h
 ·rename_i k x k' y
  split at h
  ·rename_i hk
   subst hk
   have : x = y := by simpa using h
   subst this; rfl
  ·cases h
 ·rename_i x y
  have : x = y := (MapKept.bytes_beq x y).1 (by simpa using h)
  subst this; rfl
 ·rename_i x y
  have : x = y := by simpa using h
  subst this; rfl
 ·cases h
theorem sameNow_ne {kind : TypeDesc} {a b : Value} (h : Instr.sameNow kind a b = some false) : a ≠ b := by
 intro e
 subst e
 have hb : ∀ x : ByteArray, (x == x) = true := fun x => (MapKept.bytes_beq x x).2 rfl
 cases kind <;> cases a <;> simp [Instr.sameNow, hb] at h
theorem Entries.iff {M : Mem} {l : List MapEntry} {es : List (Value × D)} : Entries M l es ↔ ∃ l' : List MapEntry, l'.Perm l ∧ MRep M l' es :=
 ⟨fun ⟨l', h1, h2, h3⟩ => ⟨l', h1, MRep.of h2 h3⟩, fun ⟨l', h1, h2⟩ => ⟨l', h1, h2.get.1, h2.get.2⟩⟩
theorem MRep.perm {M : Mem} {es es' : List (Value × D)} (h : es.Perm es') : ∀ {l : List MapEntry}, MRep M l es → ∃ l', l'.Perm l ∧ MRep M l' es' := by
 induction h with
 | nil => intro l hl; exact ⟨l, .refl l, hl⟩
 | cons x _ ih =>
  intro l hl
  cases l with
  | nil => exact hl.elim
  | cons e r =>
   obtain ⟨r', h1, h2⟩ := ih hl.2
   exact ⟨e :: r', h1.cons e, hl.1, h2⟩
 | swap x y r =>
  intro l hl
  match l, hl with
  | a :: b :: t, hl => exact ⟨b :: a :: t, .swap a b t, hl.2.1, hl.1, hl.2.2⟩
  | [a], hl => exact hl.2.elim
  | [], hl => exact hl.elim
 | trans _ _ ih1 ih2 =>
  intro l hl
  obtain ⟨l1, h1, h2⟩ := ih1 hl
  obtain ⟨l2, h3, h4⟩ := ih2 h2
  exact ⟨l2, h3.trans h1, h4⟩
theorem Entries.perm {M : Mem} {l : List MapEntry} {es es' : List (Value × D)} (h : Entries M l es) (hp : es.Perm es') : Entries M l es' := by
 obtain ⟨l', h1, h2⟩ := Entries.iff.1 h
 obtain ⟨l2, h3, h4⟩ := h2.perm hp
 exact Entries.iff.2 ⟨l2, h3.trans h1, h4⟩
theorem KeysNd.perm {es es' : List (Value × D)} (h : KeysNd es) (hp : es.Perm es') : KeysNd es' := ((hp.map _).nodup_iff).1 h
theorem Entries.to {M : Mem} {l : List MapEntry} {es : List (Value × D)} (h : Entries M l es) {e : MapEntry} (he : e ∈ l) : ∃ p ∈ es, e.key = p.1 ∧ DRep M e.val p.2 := by
 obtain ⟨l', h1, h2, h3⟩ := h
 obtain ⟨i, hi⟩ := List.getElem?_of_mem (h1.mem_iff.2 he)
 have hil : i < es.length := by rw [← h2]; exact (List.getElem?_eq_some_iff.1 hi).1
 have hp := List.getElem?_eq_getElem hil
 exact ⟨_, List.mem_of_getElem? hp, h3 i e _ hi hp⟩
theorem Entries.of {M : Mem} {l : List MapEntry} {es : List (Value × D)} (h : Entries M l es) {p : Value × D} (hp : p ∈ es) : ∃ e ∈ l, e.key = p.1 ∧ DRep M e.val p.2 := by
 obtain ⟨l', h1, h2, h3⟩ := h
 obtain ⟨i, hi⟩ := List.getElem?_of_mem hp
 have hil : i < l'.length := by rw [h2]; exact (List.getElem?_eq_some_iff.1 hi).1
 have he := List.getElem?_eq_getElem hil
 exact ⟨_, h1.mem_iff.1 (List.mem_of_getElem? he), h3 i _ p he hi⟩
theorem MRep.keys {M : Mem} : ∀ {l : List MapEntry} {es : List (Value × D)}, MRep M l es → l.map (·.key) = es.map (·.1)
 | [], [], _ => rfl
 | [], _ :: _, h => h.elim
 | _ :: _, [], h => h.elim
 | e :: r, p :: s, h => by rw [List.map_cons, List.map_cons, h.1.1, h.2.keys]
theorem Entries.nodup {M : Mem} {l : List MapEntry} {es : List (Value × D)} (h : Entries M l es) (hn : KeysNd es) : (l.map (·.key)).Nodup := by
 obtain ⟨l', h1, h2⟩ := Entries.iff.1 h
 exact ((h1.map _).nodup_iff).1 (by rw [h2.keys]; exact hn)
theorem key_one : ∀ {l : List MapEntry} {a b : MapEntry}, (l.map (·.key)).Nodup → a ∈ l → b ∈ l → a.key = b.key → a = b
 | [], a, b, _, h, _, _ => by cases h
 | x :: r, a, b, hn, ha, hb, hk => by
  rw [List.map_cons, List.nodup_cons] at hn
  rcases List.mem_cons.1 ha with e1 | ha
  ·rcases List.mem_cons.1 hb with e2 | hb
   ·rw [e1, e2]
   ·exact (hn.1 (by rw [← e1, hk]; exact List.mem_map_of_mem (f := (·.key)) hb)).elim
  ·rcases List.mem_cons.1 hb with e2 | hb
   ·exact (hn.1 (by rw [← e2, ← hk]; exact List.mem_map_of_mem (f := (·.key)) ha)).elim
   ·exact key_one hn.2 ha hb hk
theorem Entries.len {M : Mem} {l : List MapEntry} {es : List (Value × D)} (h : Entries M l es) : l.length = es.length := by
 obtain ⟨l', h1, h2, _⟩ := h
 rw [← h1.length_eq, h2]
theorem perm_erase {α : Type} : ∀ {l : List α} {j : Nat} {e : α}, l[j]? = some e → l.Perm (e :: l.eraseIdx j)
 | [], j, e, h => by simp at h
 | x :: r, 0, e, h => by simp at h; subst h; exact .refl _
 | x :: r, j + 1, e, h => ((perm_erase (l := r) (j := j) (by simpa using h)).cons x).trans (.swap e x _)
theorem findM_all {kind : TypeDesc} {key : Value} : ∀ {es : List (Value × D)} {q : Option D}, findM kind key es = some q →
  (q = none ∧ ∀ p ∈ es, Instr.sameNow kind key p.1 = some false) ∨ ∃ p ∈ es, q = some p.2 ∧ Instr.sameNow kind key p.1 = some true
 | [], q, h => by simp [findM] at h; subst h; exact .inl ⟨rfl, fun p hp => by cases hp⟩
 | p :: r, q, h => by
  simp only [findM] at h
  split at h
  ·rename_i hs
   simp at h; subst h
   exact .inr ⟨p, List.mem_cons_self, rfl, hs⟩
  ·rename_i hs
   rcases findM_all h with ⟨h1, h2⟩ | ⟨p', h1, h2, h3⟩
   ·refine .inl ⟨h1, fun p' hp' => ?_⟩
    rcases List.mem_cons.1 hp' with rfl | hp'
    ·exact hs
    ·exact h2 p' hp'
   ·exact .inr ⟨p', List.mem_cons_of_mem _ h1, h2, h3⟩
  ·cases h
theorem setM_all {kind : TypeDesc} {key : Value} {x : D} : ∀ {es es' : List (Value × D)}, setM kind key x es = some es' →
  (es' = es ++ [(key, x)] ∧ ∀ p ∈ es, Instr.sameNow kind key p.1 = some false) ∨ ∃ (j : Nat) (p : Value × D), es[j]? = some p ∧ Instr.sameNow kind key p.1 = some true ∧ es' = es.set j (key, x)
 | [], es', h => by simp [setM] at h; subst h; exact .inl ⟨rfl, fun p hp => by cases hp⟩
 | p :: r, es', h => by
  simp only [setM] at h
  split at h
  ·rename_i hs
   simp at h; subst h
   exact .inr ⟨0, p, rfl, hs, rfl⟩
  ·rename_i hs
   split at h
   ·rename_i l' hl
    simp at h; subst h
    rcases setM_all hl with ⟨h1, h2⟩ | ⟨j, p', h1, h2, h3⟩
    ·refine .inl ⟨by rw [h1]; rfl, fun p' hp' => ?_⟩
     rcases List.mem_cons.1 hp' with rfl | hp'
     ·exact hs
     ·exact h2 p' hp'
    ·exact .inr ⟨j + 1, p', by simpa using h1, h2, by rw [h3]; rfl⟩
   ·cases h
  ·cases h
theorem findNow_all {kind : TypeDesc} {key : Value} : ∀ {l : List MapEntry} (i : Nat), (∀ e ∈ l, (Instr.sameNow kind key e.key).isSome = true) →
  ((∀ e ∈ l, Instr.sameNow kind key e.key = some false) ∧ Instr.findNow kind key l i = some none) ∨
  ∃ (j : Nat) (e : MapEntry), l[j]? = some e ∧ Instr.sameNow kind key e.key = some true ∧ Instr.findNow kind key l i = some (some (i + j, e.val))
 | [], i, _ => .inl ⟨(fun e he => by cases he), rfl⟩
 | x :: r, i, h => by
  have h0 := h x List.mem_cons_self
  simp only [Instr.findNow]
  cases hs : Instr.sameNow kind key x.key with
  | none => rw [hs] at h0; cases h0
  | some b =>
   cases b with
   | true => exact .inr ⟨0, x, rfl, hs, rfl⟩
   | false =>
    rcases findNow_all (i + 1) (fun e he => h e (List.mem_cons_of_mem _ he)) with ⟨h1, h2⟩ | ⟨j, e, h1, h2, h3⟩
    ·refine .inl ⟨fun e he => ?_, h2⟩
     rcases List.mem_cons.1 he with rfl | he
     ·exact hs
     ·exact h1 e he
    ·refine .inr ⟨j + 1, e, by simpa using h1, h2, ?_⟩
     simp only
     rw [h3]
     have : i + 1 + j = i + (j + 1) := by omega
     rw [this]
theorem Entries.strict {M : Mem} {l : List MapEntry} {es : List (Value × D)} (h : Entries M l es) {kind : TypeDesc} {key : Value} (hs : strictM kind key es = true) : ∀ e ∈ l, (Instr.sameNow kind key e.key).isSome = true := fun e he => by
 obtain ⟨p, hp, hk, _⟩ := h.to he
 rw [hk]
 exact List.all_eq_true.1 hs p hp
theorem findM_perm {M : Mem} {kind : TypeDesc} {key : Value} {l : List MapEntry} {es : List (Value × D)} {q : Option D} (hn : KeysNd es) (h : Entries M l es) (hs : strictM kind key es = true) (hq : findM kind key es = some q) :
  (q = none ∧ Instr.findNow kind key l 0 = some none) ∨ ∃ j v d, q = some d ∧ Instr.findNow kind key l 0 = some (some (j, v)) ∧ DRep M v d := by
 rcases findM_all hq with ⟨rfl, hall⟩ | ⟨p, hp, rfl, ht⟩
 ·rcases findNow_all (kind := kind) (key := key) 0 (h.strict hs) with ⟨_, h1⟩ | ⟨j, e, he, ht, _⟩
  ·exact .inl ⟨rfl, h1⟩
  ·obtain ⟨p, hp, hk, _⟩ := h.to (List.mem_of_getElem? he)
   rw [hk, hall p hp] at ht; cases ht
 ·obtain ⟨e1, he1, hk1, hd1⟩ := h.of hp
  rcases findNow_all (kind := kind) (key := key) 0 (h.strict hs) with ⟨hall, _⟩ | ⟨j, e, he, ht', hf⟩
  ·have := hall e1 he1
   rw [hk1, ht] at this; cases this
  ·have hee : e = e1 := key_one (h.nodup hn) (List.mem_of_getElem? he) he1 (by rw [hk1, ← sameNow_eq ht, ← sameNow_eq ht'])
   subst hee
   exact .inr ⟨_, _, _, rfl, hf, hd1⟩
theorem perm_set {α : Type} {l : List α} {j : Nat} {e a : α} (h : l[j]? = some e) : (l.set j a).Perm (a :: l.eraseIdx j) ∧ l.Perm (e :: l.eraseIdx j) := by
 have hj : j < l.length := (List.getElem?_eq_some_iff.1 h).1
 have h2 := perm_erase (l := l.set j a) (j := j) (e := a) (by simp [hj])
 rw [List.eraseIdx_set_eq] at h2
 exact ⟨h2, perm_erase h⟩
theorem setM_perm {M : Mem} {kind : TypeDesc} {key : Value} {x : D} {l : List MapEntry} {es es2 : List (Value × D)} (hn : KeysNd es) (h : Entries M l es) (hs : strictM kind key es = true) (hq : setM kind key x es = some es2) :
  (Instr.findNow kind key l 0 = some none ∧ KeysNd es2 ∧ ∀ e1 : MapEntry, e1.key = key → DRep M e1.val x → Entries M (l ++ [e1]) es2) ∨
  ∃ (j : Nat) (v : Value) (e0 : MapEntry), Instr.findNow kind key l 0 = some (some (j, v)) ∧ l[j]? = some e0 ∧ Instr.sameNow kind key e0.key = some true ∧ KeysNd es2 ∧ ∀ e1 : MapEntry, e1.key = key → DRep M e1.val x → Entries M (l.set j e1) es2 := by
 rcases setM_all hq with ⟨rfl, hall⟩ | ⟨j0, p, hp, ht, rfl⟩
 ·rcases findNow_all (kind := kind) (key := key) 0 (h.strict hs) with ⟨_, h1⟩ | ⟨j, e, he, ht, _⟩
  ·refine .inl ⟨h1, ?_, fun e1 hk hd => ?_⟩
   ·unfold KeysNd
    rw [List.map_append, List.map_cons, List.map_nil, List.nodup_append]
    refine ⟨hn, by simp, fun a ha b hb => ?_⟩
    simp at hb; subst hb
    obtain ⟨p, hp, rfl⟩ := List.mem_map.1 ha
    exact Ne.symm (sameNow_ne (hall p hp))
   ·obtain ⟨l', p1, p2⟩ := Entries.iff.1 h
    refine ⟨l' ++ [e1], p1.append_right _, by simp [p2.get.1], fun i e p he hp => ?_⟩
    by_cases hi : i < l'.length
    ·rw [List.getElem?_append_left hi] at he
     rw [List.getElem?_append_left (by rw [← p2.get.1]; exact hi)] at hp
     exact p2.get.2 i e p he hp
    ·have hil := (List.getElem?_eq_some_iff.1 he).1
     rw [List.length_append, List.length_singleton] at hil
     have hi2 : i = l'.length := by omega
     subst hi2
     rw [List.getElem?_append_right (by omega)] at he
     rw [p2.get.1, List.getElem?_append_right (by omega)] at hp
     simp at he hp
     subst he; subst hp
     exact ⟨hk, hd⟩
  ·obtain ⟨p, hp, hk, _⟩ := h.to (List.mem_of_getElem? he)
   rw [hk, hall p hp] at ht; cases ht
 ·have hk0 : p.1 = key := (sameNow_eq ht).symm
  have hl' := h
  obtain ⟨l', p1, p2, p3⟩ := hl'
  have hj0 : j0 < l'.length := by rw [p2]; exact (List.getElem?_eq_some_iff.1 hp).1
  have he' := List.getElem?_eq_getElem hj0
  obtain ⟨q1, q2⟩ := p3 j0 _ p he' hp
  rcases findNow_all (kind := kind) (key := key) 0 (h.strict hs) with ⟨hall, _⟩ | ⟨j, e, he, ht', hf⟩
  ·have := hall _ (p1.mem_iff.1 (List.mem_of_getElem? he'))
   rw [q1, ht] at this; cases this
  ·have hee : l'[j0] = e := key_one (h.nodup hn) (p1.mem_iff.1 (List.mem_of_getElem? he')) (List.mem_of_getElem? he) (by rw [q1, hk0, ← sameNow_eq ht'])
   rw [hee] at he'
   rw [Nat.zero_add] at hf
   refine .inr ⟨j, e.val, e, hf, he, ht', ?_, fun e1 hk hd => ⟨l'.set j0 e1, ?_, by simp [p2], fun i e2 p' h1 h2 => ?_⟩⟩
   ·have : (es.set j0 (key, x)).map (·.1) = es.map (·.1) := by
     rw [List.map_set]
     apply List.ext_getElem?
     intro i
     rw [List.getElem?_set]
     split
     ·rename_i hi
      subst hi
      rw [List.getElem?_map, hp]
      simp [hk0, (List.getElem?_eq_some_iff.1 hp).1]
     ·rfl
    unfold KeysNd
    rw [this]; exact hn
   ·obtain ⟨a1, a2⟩ := perm_set (a := e1) he'
    obtain ⟨b1, b2⟩ := perm_set (a := e1) he
    have c : (e :: l'.eraseIdx j0).Perm (e :: l.eraseIdx j) := a2.symm.trans (p1.trans b2)
    exact a1.trans ((List.Perm.cons e1 ((List.perm_cons e).1 c)).trans b1.symm)
   ·rw [List.getElem?_set] at h1 h2
    by_cases hi : j0 = i
    ·subst hi
     rw [if_pos rfl, if_pos hj0] at h1
     rw [if_pos rfl, if_pos (by rw [← p2]; exact hj0)] at h2
     simp at h1 h2
     subst h1; subst h2
     exact ⟨hk, hd⟩
    ·rw [if_neg hi] at h1 h2
     exact p3 i e2 p' h1 h2
theorem sameBits_of {kind : TypeDesc} {a b : Value} (h : Instr.sameNow kind a b = some true) : Instr.sameBits 10000 b a = true := by
 unfold Instr.sameNow at h
 split at h
 ·rename_i k x k' y
  split at h
  ·rename_i hk
   subst hk
   have : x = y := by simpa using h
   subst this
   simp [Instr.sameBits]
  ·cases h
 ·rename_i x y
  have : x = y := (MapKept.bytes_beq x y).1 (by simpa using h)
  subst this
  simp [Instr.sameBits, (MapKept.bytes_beq _ _).2 rfl]
 ·rename_i x y
  have : x = y := by simpa using h
  subst this
  simp [Instr.sameBits]
 ·cases h
theorem zeroX_spec {P : Program} {t : TypeId} {z : D} (h : zeroX P t = some z) : ∃ v, (∀ w, (zeroValue t).run P w = .ok v w) ∧ ∀ M, DRep M v z := by
 unfold zeroX at h
 split at h
 ·rename_i i hi
  split at h
  ·rename_i cs hz
   simp at h; subst h
   refine ⟨.agg cs, fun w => by simp only [zeroValue, typeInfo, program, Sem.run_bind, Sem.run, hi, hz, Result.andThen_ok, Sem.run_pure], fun M => .agg cs _ (by simp) fun k c x hc hx => ?_⟩
   rw [List.getElem?_map, Option.map_eq_some_iff] at hx
   obtain ⟨y, hy, rfl⟩ := hx
   have : cs[k]? = some y := by simpa using hy
   rw [hc] at this; cases this
   exact .v _
  ·rename_i v _ hz
   simp at h; subst h
   exact ⟨v, fun w => by simp only [zeroValue, typeInfo, program, Sem.run_bind, Sem.run, hi, hz, Result.andThen_ok, Sem.run_pure], fun M => .v v⟩
  ·cases h
 ·cases h
theorem argKind_slice {P : Program} {l : Array TypeId} (h : argKind P l.toList = 2) : ∃ t e, l[0]? = some t ∧ P.underlying t = some (.slice e) := by
 obtain ⟨l⟩ := l
 cases l with
 | nil => simp [argKind] at h
 | cons t r =>
  refine ⟨t, ?_⟩
  simp only [argKind] at h
  split at h <;> first | (simp at h; done) | (rename_i e he; exact ⟨e, rfl, he⟩)
theorem argKind_string {P : Program} {l : Array TypeId} (h : argKind P l.toList = 1) : ∃ t, l[0]? = some t ∧ P.underlying t = some .string := by
 obtain ⟨l⟩ := l
 cases l with
 | nil => simp [argKind] at h
 | cons t r =>
  refine ⟨t, ?_⟩
  simp only [argKind] at h
  split at h <;> first | (simp at h; done) | (rename_i he; exact ⟨rfl, he⟩)
theorem argKind_map {P : Program} {l : Array TypeId} (h : argKind P l.toList = 3) : ∃ t a b, l[0]? = some t ∧ P.underlying t = some (.map a b) := by
 obtain ⟨l⟩ := l
 cases l with
 | nil => simp [argKind] at h
 | cons t r =>
  refine ⟨t, ?_⟩
  simp only [argKind] at h
  split at h <;> first | (simp at h; done) | (rename_i a b he; exact ⟨a, b, rfl, he⟩)
theorem HReps.append {E : Env} {M : Mem} {vs us : Array Value} {l m : List H} (h : HReps E M vs l) (k : HReps E M us m) : HReps E M (vs ++ us) (l ++ m) := by
 refine ⟨by simp [h.1, k.1], fun i c x hc hx => ?_⟩
 by_cases hi : i < vs.size
 ·rw [Array.getElem?_append_left hi] at hc
  rw [List.getElem?_append_left (by rw [← h.1]; exact hi)] at hx
  exact h.2 i c x hc hx
 ·rw [Array.getElem?_append_right (by omega)] at hc
  rw [List.getElem?_append_right (by rw [← h.1]; omega), ← h.1] at hx
  exact k.2 _ c x hc hx
theorem Sim.args {C : Ctx} {E : Env} {M : Mem} {S : AState} {a : Act} {w : World} (hs : Sim C E M S a w) (l : Array Operand) : HReps E M (l.map a.eval) (l.toList.map (Go.Awp.ev S)) := by
 refine ⟨by simp, fun i c x hc hx => ?_⟩
 simp only [Array.getElem?_map, List.getElem?_map, Array.getElem?_toList] at hc hx
 cases hl : l[i]? with
 | none => rw [hl] at hc; cases hc
 | some y => rw [hl] at hc hx; simp at hc hx; subst hc; subst hx; exact hs.ev y
theorem map_two {l : Array Operand} {ρ : Operand → H} {x y : H} (h : l.toList.map ρ = [x, y]) : ∃ p q, l = #[p, q] ∧ ρ p = x ∧ ρ q = y := by
 obtain ⟨l⟩ := l
 match l, h with
 | [p, q], h => simp at h; exact ⟨p, q, rfl, h.1, h.2⟩
theorem map_one {l : Array Operand} {ρ : Operand → H} {x : H} (h : l.toList.map ρ = [x]) : ∃ p, l = #[p] ∧ ρ p = x := by
 obtain ⟨l⟩ := l
 match l, h with
 | [p], h => simp at h; exact ⟨p, rfl, h⟩
theorem newNames_mem {own : List (Nat × Own)} : ∀ {own' : List (Nat × Own)} {n : Nat} {o : Own}, gt own' n = some o → gt own n = none → n ∈ newNames own own'
 | [], n, o, h, _ => by simp [gt] at h
 | (m, x) :: r, n, o, h, h0 => by
  rw [gt_cons] at h
  simp only [newNames]
  by_cases hm : m = n
  ·subst hm; rw [h0]; exact List.mem_cons_self
  ·rw [if_neg hm] at h
   have ih := newNames_mem h h0
   split
   ·exact ih
   ·exact List.mem_cons_of_mem _ ih
theorem gt_map_some (own : List (Nat × Own)) (n : Nat) : gt (own.map fun p => (p.1, some p.2)) n = (gt own n).map some := by
 induction own with
 | nil => rfl
 | cons p r ih => obtain ⟨k, o⟩ := p; simp only [List.map_cons, gt_cons]; by_cases h : k = n <;> simp [h, ih]
theorem gt_map_none (own : List (Nat × Own)) (n : Nat) : gt (own.map fun p => (p.1, (none : Option Own))) n = (gt own n).map fun _ => none := by
 induction own with
 | nil => rfl
 | cons p r ih => obtain ⟨k, o⟩ := p; simp only [List.map_cons, gt_cons]; by_cases h : k = n <;> simp [h, ih]
theorem gt_app {α : Type} : ∀ (l m : List (Nat × α)) (n : Nat), gt (l ++ m) n = match gt l n with | some x => some x | none => gt m n
 | [], m, n => rfl
 | (k, x) :: r, m, n => by
  simp only [List.cons_append, gt_cons]
  by_cases h : k = n
  ·simp [h]
  ·rw [if_neg h, if_neg h]; exact gt_app r m n
section
variable {C : Ctx} {nm : Nat → Nat} {o : Oper} (hd : ∀ d, o.dst = some d → C.wr d)
include hd
theorem Sim.called {E E' : Env} {M M' : Mem} {S : AState} {a : Act} {w w' : World} {own own' : List (Nat × Own)} {v : Value} {r : H} (hs : Sim C E M S a w) (hsub : ∀ n o, gt own n = some o → S.own? n = some o)
  (hp : FnPost E M own w v r own' E' M' w') (henv : ∀ n, (gt own' n = none ∨ ∃ o, gt own n = some o) → E' n = E n) (hnew : ∀ d ∈ newNames own own', S.fresh d = true ∧ d < given) :
  Sim C E' M' (S.app o.dst (callEff r own own')) (a.put o.dst v) w' := by
 have hE : ∀ m, S.fresh m = false → E' m = E m := by
  intro m hm
  refine henv m ?_
  cases h1 : gt own' m with
  | none => exact .inl rfl
  | some o1 =>
   right
   cases h2 : gt own m with
   | none => have := (hnew m (newNames_mem h1 h2)).1; rw [hm] at this; cases this
   | some o2 => exact ⟨o2, rfl⟩
 have hEt : ∀ t x, gt S.tmps t = some x → ∀ k, H.has k x = true → E' k = E k := by
  intro t x hx k hk
  refine hE k ?_
  cases hf : S.fresh k with
  | false => rfl
  | true => rw [AState.fresh_tmp hf hx] at hk; cases hk
 have hEo : ∀ m o, S.own? m = some o → ∀ k, Own.has k o = true → E' k = E k := by
  intro m o ho k hk
  refine hE k ?_
  cases hf : S.fresh k with
  | false => rfl
  | true => rw [AState.fresh_cell hf ho] at hk; cases hk
 have hEown : ∀ m o, S.own? m = some o → E' m = E m := by
  intro m o ho
  refine hE m ?_
  cases hf : S.fresh m with
  | false => rfl
  | true => rw [AState.fresh_own hf] at ho; cases ho
 let S1 : AState := { S with own := own'.map (fun p => (p.1, some p.2)) ++ own.map (fun p => (p.1, none)) ++ S.own }
 have hold : ∀ m o, S1.own? m = some o → gt own' m = some o ∨ gt own' m = none ∧ gt own m = none ∧ S.own? m = some o := by
  intro m o ho
  simp only [S1, AState.own?, gt_app, gt_map_some, gt_map_none] at ho
  cases h1 : gt own' m with
  | some o1 => rw [h1] at ho; simp at ho; exact .inl (by rw [ho])
  | none =>
   rw [h1] at ho
   cases h2 : gt own m with
   | some o2 => rw [h2] at ho; simp at ho
   | none => rw [h2] at ho; exact .inr ⟨rfl, rfl, by simpa [AState.own?] using ho⟩
 have hext : ∀ m o b, gt own m = none → S.own? m = some o → o.foot w (E m) b → ¬ inExt E w own b := by
  rintro m o b hm ho hb ⟨n, o2, hn, hbn⟩
  have hne : m ≠ n := by intro e; subst e; rw [hm] at hn; cases hn
  exact hs.apart m n o o2 b hne ho (hsub n o2 hn) hb hbn
 have hMn : ∀ m o b, gt own m = none → S.own? m = some o → o.foot w (E m) b → ∀ k, M' b k = none := by
  intro m o b hm ho hb k
  cases hq : M' b k with
  | none => rfl
  | some u =>
   rcases hp.mnew b k u hq with q | q | q
   ·rw [((hs.own m o ho).block hb).2 k] at q; cases q
   ·exact (hext m o b hm ho hb q).elim
   ·have := hs.block_lt ho hb; omega
 have hsame : ∀ m o, gt own m = none → S.own? m = some o → ∀ b, o.foot w (E m) b → w'.heap[b]? = w.heap[b]? := fun m o h2 h3 b hb => hp.frame b (hs.block_lt h3 hb) (hext m o b h2 h3 hb)
 have hfoot : ∀ m o, gt own m = none → S.own? m = some o → ∀ b, o.foot w' (E m) b → o.foot w (E m) b := fun m o h2 h3 b hb => ((hs.own m o h3).foot_keep (hsame m o h2 h3) b).1 hb
 have hexthome : ∀ b, inExt E w own b → C.ext b ∨ C.w0.heap.size ≤ b := fun b ⟨n, o, hn, hb⟩ => hs.home n o b (hsub n o hn) hb
 have h1 : Sim C E' M' S1 a w' := by
  refine { size := hs.size, defers := hs.defers, fixed := hs.fixed, tmps := ?_, mem := hp.mem, own := ?_, apart := ?_, home := ?_, m0 := Mem.le_trans hs.m0 hp.mle, mnew := ?_, frame := ?_, grows := Nat.le_trans hs.grows hp.grows, os := hp.os.trans hs.os, tape := hp.tape.trans hs.tape, output := hp.output.trans hs.output, env := fun n hn => (hp.env n hn).trans (hs.env n hn) }
  ·intro t x hx
   obtain ⟨u, hu, hr⟩ := hs.tmps t x hx
   exact ⟨u, hu, hr.mono hp.mle (hEt t x hx)⟩
  ·intro m o ho
   rcases hold m o ho with h | ⟨_, h2, h3⟩
   ·exact hp.owns.ok m o h
   ·exact (hs.own m o h3).keep (hEown m o h3) (hsame m o h2 h3) (hEo m o h3) hp.mle (fun b hb => hMn m o b h2 h3 hb)
  ·intro m m' o o' b hne ho ho' hb hb'
   rcases hold m o ho with h | ⟨_, h2, h3⟩ <;> rcases hold m' o' ho' with k | ⟨_, k2, k3⟩
   ·exact hp.owns.apart m m' o o' b hne h k hb hb'
   ·rw [hEown m' o' k3] at hb'
    replace hb' := hfoot m' o' k2 k3 b hb'
    rcases hp.home m o b h hb with q | q
    ·exact hext m' o' b k2 k3 hb' q
    ·have := hs.block_lt k3 hb'; omega
   ·rw [hEown m o h3] at hb
    replace hb := hfoot m o h2 h3 b hb
    rcases hp.home m' o' b k hb' with q | q
    ·exact hext m o b h2 h3 hb q
    ·have := hs.block_lt h3 hb; omega
   ·rw [hEown m o h3] at hb; rw [hEown m' o' k3] at hb'
    exact hs.apart m m' o o' b hne h3 k3 (hfoot m o h2 h3 b hb) (hfoot m' o' k2 k3 b hb')
  ·intro m o b ho hb
   rcases hold m o ho with h | ⟨_, h2, h3⟩
   ·rcases hp.home m o b h hb with q | q
    ·exact hexthome b q
    ·exact .inr (Nat.le_trans hs.grows q)
   ·rw [hEown m o h3] at hb
    exact hs.home m o b h3 (hfoot m o h2 h3 b hb)
  ·intro b k u hu
   rcases hp.mnew b k u hu with q | q | q
   ·exact hs.mnew b k u q
   ·exact .inr (hexthome b q)
   ·exact .inr (.inr (Nat.le_trans hs.grows q))
  ·intro k hk hke
   rw [hp.frame k (Nat.lt_of_lt_of_le hk hs.grows) fun he => ?_]
   ·exact hs.frame k hk hke
   ·rcases hexthome k he with q | q
    ·exact hke q
    ·omega
 exact h1.put o.dst hd hp.rep
theorem ok_callFn {c : Call} {f : Operand} (ho : o.op = .call c) (hc : c.callee = .value f) : OpOk C nm o := by
 intro E M S a w K Q k hs hv hK
 simp only [AVal, ho, hc] at hv
 have hf := hs.ev f
 have key : ∀ (fid : FuncId) (l l' : List H), HRep E M (a.eval f) (.fn fid l l') → ACall C.P fid (l ++ c.args.toList.map (Go.Awp.ev S) ++ l') S.own? (fun e => (∀ d ∈ e.new, S.fresh d = true ∧ d < given) ∧ k e) → o.wp C.P a w K Q := by
  intro fid l l' hf hv
  obtain ⟨own, r, own', ⟨hcall, hfn⟩, hown, hnew, hk⟩ := hv
  generalize hq : a.eval f = q at hf
  cases hf with
  | fn fid first captured l l' h1 h2 h3 h4 =>
   have hargs : HReps E M (first ++ c.args.map a.eval ++ captured) (l ++ c.args.toList.map (Go.Awp.ev S) ++ l') :=
    HReps.append (HReps.append ⟨h1, h3⟩ (hs.args c.args)) ⟨h2, h4⟩
   have hsub : ∀ n o, gt own n = some o → S.own? n = some o := fun n o h => hown (n, o) (gt_mem h)
   have hC := hfn E M w _ (C.g0.mono hs.m0 fun b ⟨v, hv⟩ hb => hs.frame b hb fun hx => by rw [C.gx b hx 0] at hv; cases hv) hs.mem ⟨fun n o h => hs.own n o (hsub n o h), fun n m o o' b hne h h' => hs.apart n m o o' b hne (hsub n o h) (hsub m o' h')⟩ hargs
   have hex : (execOp a.eval o).run C.P w = .ok (.enter fid (first ++ c.args.map a.eval ++ captured)) w := by
    unfold callable at hcall
    split at hcall
    ·rename_i fn hfn'
     simp only [Bool.and_eq_true, bne_iff_ne, ne_eq] at hcall
     have hb : ¬ fn.body = none := by
      intro hbb
      rw [hbb] at hcall; simp at hcall
     simp [execOp, ho, resolve, hc, hq, Deferred.ofValue, invoke, callFunc, hfn', hcall.1, hb]
    ·cases hcall
   unfold Oper.wp
   rw [hex]
   refine hC.mono ?_
   rintro e w' ⟨v, E', M', rfl, hp, henv⟩
   exact hK _ _ _ _ _ hk (hs.called hd hsub hp henv hnew)
 split at hv
 ·rename_i fid l l' he
  rw [he] at hf
  exact key fid l l' hf hv
 ·rename_i fid he
  rw [he] at hf
  refine key fid [] [] ?_ (by rw [List.nil_append, List.append_nil]; exact hv)
  rw [hf.dv]
  exact .fn fid #[] #[] [] [] rfl rfl (fun i c x hc => by simp at hc) (fun i c x hc => by simp at hc)
 ·exact hv.elim
omit hd in
theorem zeroX_int {P : Program} {e : TypeId} {k : IntKind} {n : Int} (h : zeroX P e = some (.v (.int k n))) : ∃ i, P.info? e = some i ∧ i.zero = some (.int k n) := by
 unfold zeroX at h
 split at h
 ·rename_i i hi
  split at h
  ·cases h
  ·rename_i v _ hv
   simp only [Option.some.injEq, D.v.injEq] at h
   subst h
   exact ⟨i, hi, hv⟩
  ·cases h
 ·cases h
omit hd in
theorem strCells_ints (s : ByteArray) : Lib.strCells s = (Bs.ints s).map (Value.int .u8) := by
 unfold Lib.strCells Bs.ints
 rw [List.map_map]; rfl
omit hd in
theorem ints_length (s : ByteArray) : (Bs.ints s).length = s.size := by
 unfold Bs.ints
 rw [List.length_map, Array.length_toList]; rfl
omit hd in
theorem run_loadBytes_ints {P : Program} (w : World) : ∀ (l : List Int) (a : Addr) (acc : ByteArray), (∀ (j : Nat) (x : Int), l[j]? = some x → w.cell? (a.add j) = some (.int .u8 x)) →
  (loadBytes a acc l.length).run P w = .ok (acc ++ Bs.bytes l) w
 | [], a, acc, _ => by
  simp only [List.length_nil, loadBytes, Sem.run_pure]
  congr 1
  apply ByteArray.ext; simp [Bs.bytes]
 | x :: l, a, acc, h => by
  have h0 : w.cell? a = some (.int .u8 x) := by
   have := h 0 x rfl
   simpa [Addr.add] using this
  have ih := run_loadBytes_ints (P := P) w l (a.add 1) (acc.push (UInt8.ofNat x.toNat)) (fun j y hy => by
   have := h (j + 1) y (by simpa using hy)
   have e : (a.add 1).add j = a.add (j + 1) := by
    unfold Addr.add
    by_cases hj : j = 0
    ·subst hj; simp
    ·simp [hj]; omega
   rw [e]; exact this)
  have hx : (x.toNat).toUInt8 = UInt8.ofNat x.toNat := rfl
  simp only [List.length_cons, loadBytes, Sem.run_bind, Go.run_load, h0, Result.andThen, hx]
  rw [ih]
  congr 1
  apply ByteArray.ext
  simp [Bs.bytes, ByteArray.push]
omit hd in
theorem run_unsafeString_ints {P : Program} {w : World} (pt it ty e : TypeId) (hp : P.underlying pt = some (.pointer e)) (hc : P.cellsOf e = 1) (g cells : Nat) (hsh : w.shape? g = some (e, cells)) (l : List Int) (h0 : l ≠ []) (hn : l.length ≤ cells) (h63 : l.length ≤ 9223372036854775807)
  (hcell : ∀ (j : Nat) (x : Int), l[j]? = some x → w.cell? ((⟨g, 0, none⟩ : Addr).add j) = some (.int .u8 x)) :
  (Builtin.unsafeString_ #[pt, it] ty #[.pointer (some ⟨g, 0, none⟩), .int .i64 l.length]).run P w = .ok (.string (Bs.bytes l)) (w.freeze ⟨g, 0, none⟩ l.length) := by
 have hl : l.length ≠ 0 := by simpa using h0
 have hlb := run_loadBytes_ints (P := P) w l ⟨g, 0, none⟩ .empty hcell
 have hlies := Lib.liesAt_bytes (P := P) hc (cells / P.cellsOf e) l.length (by rw [hc]; simpa using hn)
 have h63' : ¬ (9223372036854775807 : Int) < (l.length : Int) := by omega
 have hmax : IntKind.i64.max = 9223372036854775807 := rfl
 have hem : (ByteArray.empty : ByteArray) ++ Bs.bytes l = Bs.bytes l := by apply ByteArray.ext; simp
 rw [hem] at hlb
 have hva : (variablesAt ⟨g, 0, none⟩ e l.length).run P w = .ok true w := by
  simp [variablesAt, hsh, hlies]
 have hne : ((l.length : Int) = 0) = False := by simpa using h0
 have hneg : ¬ (l.length : Int) < 0 := by omega
 have hdef : Builtin.unsafeString_ #[pt, it] ty #[.pointer (some ⟨g, 0, none⟩), .int .i64 l.length] =
   (do
     let n ← asInt (.int .i64 l.length)
     if n < 0 then runtimePanic (.error "unsafe.String: len out of range")
     if n > IntKind.i64.max then unsupported (.unsafePointer "String: a length above the largest int")
     if n = 0 then pure (.string .empty)
     else if ← variablesAt ⟨g, 0, none⟩ (← elemOf pt) n.toNat then do
      let s ← loadBytes ⟨g, 0, none⟩ .empty n.toNat
      freeze ⟨g, 0, none⟩ n.toNat
      pure (.string s)
     else unsupported (.unsafePointer "String: not so many bytes at ptr")) := rfl
 rw [hdef]
 simp [asInt, asIntOf, hmax, h63', hneg, hl, variablesAt, hsh, elemOf, run_underlying hp, hlies, hlb]
omit hd in
theorem run_append_str_at {P : Program} {w : World} (t u ty e : TypeId) (i : TypeInfo) (ht : P.underlying t = some (.slice e)) (hu : P.underlying u = some .string) (hi : P.info? e = some i) (hz : i.zero = some (.int .u8 0))
  (hsize : i.size = 1) (hby : i.bytes = 1) (v : Value) (n : Nat) (xs : List Value) (hown : w.ownsRow 0 e 1 v n xs) (s : ByteArray) (hle : n + s.size ≤ 1000000000000) :
  ∃ v' w', (Builtin.append_ #[t, u] ty #[v, .string s]).run P w = .ok v' w' ∧ w'.ownsRow 0 e 1 v' (n + s.size) (xs ++ (Bs.ints s).map (Value.int .u8)) ∧ w.grownBy w' (blockOf v) ∧
   ∀ b, blockOf v' = some b → blockOf v = some b ∨ w.heap.size ≤ b := by
 have hM1 : (1000000000000 : Nat) ≤ maxLen := by decide
 have hb : blockOf v = v.ownBlock := by
  rcases hown.2 with ⟨rfl, _⟩ | ⟨g, cap, cur, rfl, _⟩ <;> rfl
 obtain ⟨v', w', e1, e2, e3, _⟩ := Lib.run_append_own_string (P := P) (w := w) 0 t u ty e i ht hu hi hz hsize hby v n xs hown s (by omega) (by omega) (Nat.zero_le _)
 refine ⟨v', w', e1, by rw [← strCells_ints]; exact e2, by rw [hb]; exact e3, fun b hbv => ?_⟩
 rcases hown.2 with ⟨rfl, rfl⟩ | ⟨g, cap, cur, rfl, hbg, hg, hnc, hcm, hcs, htake⟩
 ·obtain ⟨v2, w2, f1, f2, _⟩ := Lib.run_append_own_string (P := P) (w := w) w.heap.size t u ty e i ht hu hi hz hsize hby (.slice none 0 0) 0 [] (World.ownsRow_nil w _ e 1) s (by omega) (by omega) (Nat.le_refl _)
  rw [e1] at f1
  simp only [Result.ok.injEq] at f1
  obtain ⟨rfl, rfl⟩ := f1
  right
  rcases f2.2 with ⟨hn, _⟩ | ⟨g2, cap2, cur2, hv2, hb2, _⟩
  ·rw [hn] at hbv; simp [blockOf] at hbv
  ·rw [hv2] at hbv; simp [blockOf] at hbv; omega
 ·by_cases hroom : n + s.size ≤ cap
  ·have hcs' : cur.size = cap := by simpa using hcs
   have f1 := Lib.run_append_room_string (P := P) w t u ty e i ht hu hi hsize g n cap cur hg s hroom (by omega)
   rw [e1] at f1
   simp only [Result.ok.injEq] at f1
   obtain ⟨rfl, _⟩ := f1
   left; simpa [blockOf] using hbv
  ·have holds : ∀ j u, xs[j]? = some u → w.cell? ((⟨g, 0, none⟩ : Addr).add j) = some u := hown.cells (g := g) rfl
   have f1 := Lib.run_append_grow_string (P := P) w t u ty e i (.int .u8 0) ht hu hi hz ⟨g, 0, none⟩ n cap xs (by rw [hsize]; simpa using hown.1) holds s (by omega) (by omega) (by rw [hby]; exact growslice_fits (by omega) (by omega))
   rw [e1] at f1
   simp only [Result.ok.injEq] at f1
   obtain ⟨rfl, _⟩ := f1
   right; simp [blockOf] at hbv; omega
theorem ok_callBuiltin {c : Call} {b : Builtin} (ho : o.op = .call c) (hc : c.callee = .builtin b) : OpOk C nm o := by
 intro E M S a w K Q k hs hv hK
 simp only [AVal, ho, hc] at hv
 split at hv
 ·-- len
  rename_i x hargs
  obtain ⟨p, hp, rfl⟩ := map_one hargs
  have hx := hs.ev p
  split at hv
  ·rename_i sz rows he
   rw [he] at hx
   obtain ⟨hak, hv⟩ := hv
   obtain ⟨t, e, h1, h2⟩ := argKind_slice hak
   have hlen : ∃ ad cap, a.eval p = .slice ad rows.length cap := by
    rcases hx.toD.sl_cells with ⟨h, h'⟩ | ⟨ad, cap, h, h'⟩ | ⟨b, off, cap, h, _⟩
    ·exact ⟨none, 0, by rw [h, h']; rfl⟩
    ·exact ⟨some ad, cap, by rw [h, h']; rfl⟩
    ·exact ⟨_, _, h⟩
   obtain ⟨ad, cap, hq⟩ := hlen
   refine wp_value (v := .int .i64 rows.length) (w' := w) ?_ (hK _ _ _ _ _ hv.2 (hs.app_val hd rfl (.d (.v _))))
   simp [execOp, ho, resolve, hc, hp, hq, invoke, builtin, Builtin.len_, h1, run_underlying h2, goInt]
  ·rename_i m n he
   rw [he] at hx
   obtain ⟨hak, hv⟩ := hv
   obtain ⟨t, e, h1, h2⟩ := argKind_slice hak
   generalize hq : a.eval p = q at hx
   cases hx with
   | vh m n l c' ad hE hl =>
    refine wp_value (v := .int .i64 n) (w' := w) ?_ (hK _ _ _ _ _ hv.2 (hs.app_val hd rfl (.d (.v _))))
    simp [execOp, ho, resolve, hc, hp, hq, invoke, builtin, Builtin.len_, h1, run_underlying h2, goInt]
  ·rename_i n he
   rw [he] at hx
   split at hv
   ·rename_i es hown
    obtain ⟨hak, hv⟩ := hv
    obtain ⟨t, ta, tb, h1, h2⟩ := argKind_map hak
    generalize hq : a.eval p = q at hx
    cases hx with
    | mp n b hE =>
     obtain ⟨b', es', clock, g1, g2, _, g3, _⟩ := hs.own n _ hown
     rw [hE] at g1; cases g1
     have g3 : es'.size = es.length := by simpa using g3.len
     refine wp_value (v := .int .i64 es.length) (w' := w) ?_ (hK _ _ _ _ _ hv.2 (hs.app_val hd rfl (.d (.v _))))
     simp [execOp, ho, resolve, hc, hp, hq, invoke, builtin, Builtin.len_, h1, run_underlying h2, goInt, MapKept.run_getObj_map g2, g3]
   ·exact hv.elim
  ·rename_i s he
   rw [he] at hx; have hx := hx.dv
   obtain ⟨hak, hv⟩ := hv
   obtain ⟨t, h1, h2⟩ := argKind_string hak
   refine wp_value (v := .int .i64 s.size) (w' := w) ?_ (hK _ _ _ _ _ hv.2 (hs.app_val hd rfl (.d (.v _))))
   simp [execOp, ho, resolve, hc, hp, hx, invoke, builtin, Builtin.len_, h1, run_underlying h2, goInt]
  ·exact hv.elim
 ·-- min
  rename_i x y hargs
  obtain ⟨p, q, hp, rfl, rfl⟩ := map_two hargs
  have hx := hs.ev p
  have hy := hs.ev q
  split at hv
  ·rename_i kx m ky n hex hey
   rw [hex] at hx; rw [hey] at hy
   have hx := hx.dv; have hy := hy.dv
   have hmm : min m n = if n < m then n else m := by omega
   rw [hmm] at hv
   refine wp_value (v := .int kx (if n < m then n else m)) (w' := w) ?_ (hK _ _ _ _ _ hv.2 (hs.app_val hd rfl (.d (.v _))))
   simp [execOp, ho, resolve, hc, hp, hx, hy, invoke, builtin, Builtin.min_, Builtin.min2]
  ·exact hv.elim
 ·-- max
  rename_i x y hargs
  obtain ⟨p, q, hp, rfl, rfl⟩ := map_two hargs
  have hx := hs.ev p
  have hy := hs.ev q
  split at hv
  ·rename_i kx m ky n hex hey
   rw [hex] at hx; rw [hey] at hy
   have hx := hx.dv; have hy := hy.dv
   have hmm : max m n = if n > m then n else m := by omega
   rw [hmm] at hv
   refine wp_value (v := .int kx (if n > m then n else m)) (w' := w) ?_ (hK _ _ _ _ _ hv.2 (hs.app_val hd rfl (.d (.v _))))
   simp [execOp, ho, resolve, hc, hp, hx, hy, invoke, builtin, Builtin.max_, Builtin.max2]
  ·exact hv.elim
 ·-- append
  rename_i x y hargs
  obtain ⟨p, q, hp, rfl, rfl⟩ := map_two hargs
  have hx := hs.ev p
  have hy := hs.ev q
  split at hv
  ·exact hv.elim
  rename_i d hdst
  split at hv
  ·rename_i t t' hty
   have hty' : c.argTypes = #[t, t'] := by
    rw [← Array.toList_inj]; simpa using hty
   split at hv
   ·rename_i e sz bytes hel
    obtain ⟨ii, z, hu, hii, hz, hzs, his, hib, hpos⟩ := elemTy_spec hel
    split at hv
    ·rename_i sz' news hey
     rw [hey] at hy
     have src : ∀ (n : Nat), sz = sz' → news.all (fun r => r.all D.one) = true → (∀ r ∈ news, r.length = sz) ∧ ∃ cs : List Value, cs.length = news.length * sz ∧
       ((a.eval q = .slice none 0 0 ∧ news.length = 0) ∨ ∃ ad cc, a.eval q = .slice (some ad) news.length cc ∧ ∀ (j : Nat) u, cs[j]? = some u → w.cell? (ad.add j) = some u) ∧
       (∀ u ∈ cs, u.oneCell' = true) ∧ ∀ (i j : Nat) (r : List D) (c : Value) (x : D), news[i]? = some r → r[j]? = some x → cs[i * sz + j]? = some c → DRep M c x := by
      intro _ hsz hone
      subst hsz
      rcases hy.toD.sl_cells with ⟨h, h'⟩ | ⟨ad, cap, h, h'⟩ | ⟨b, off, cap, h, hcap, cs, hl, hm, hrl, hc'⟩
      ·subst h'
       exact ⟨by simp, [], by simp, .inl ⟨h, rfl⟩, by simp, by simp⟩
      ·subst h'
       exact ⟨by simp, [], by simp, .inr ⟨ad, cap, h, by simp⟩, by simp, by simp⟩
      ·refine ⟨hrl, cs, hl, .inr ⟨_, _, h, fun j u hu => by rw [addr_add]; exact hs.mem _ _ _ (hm j u hu)⟩, fun u hu => ?_, hc'⟩
       obtain ⟨kk, hkk⟩ := List.mem_iff_getElem?.1 hu
       have hlt : kk < news.length * sz := by rw [← hl]; exact (List.getElem?_eq_some_iff.1 hkk).1
       have hi : kk / sz < news.length := Nat.div_lt_of_lt_mul (by rw [Nat.mul_comm]; exact hlt)
       have hj : kk % sz < (news[kk / sz]).length := by rw [hrl _ (List.getElem_mem hi)]; exact Nat.mod_lt _ hpos
       have hdm : kk / sz * sz + kk % sz = kk := by rw [Nat.mul_comm]; exact Nat.div_add_mod kk sz
       have hrep := hc' (kk / sz) (kk % sz) _ u _ (List.getElem?_eq_getElem hi) (List.getElem?_eq_getElem hj) (by rw [hdm]; exact hkk)
       have ho1 : ((news[kk / sz])[kk % sz]).one = true := by
        rw [List.all_eq_true] at hone
        have := hone _ (List.getElem_mem hi)
        rw [List.all_eq_true] at this
        exact this _ (List.getElem_mem hj)
       exact (HRep.d (E := E) hrep).one ho1
     have glue : ∀ (rows : List (List D)) (xs cs : List Value), xs.length = rows.length * sz → (∀ r ∈ rows, r.length = sz) →
       (∀ (i j : Nat) (r : List D) (c : Value) (x : D), rows[i]? = some r → r[j]? = some x → xs[i * sz + j]? = some c → DRep M c x) →
       (∀ (i j : Nat) (r : List D) (c : Value) (x : D), news[i]? = some r → r[j]? = some x → cs[i * sz + j]? = some c → DRep M c x) → (∀ r ∈ news, r.length = sz) →
       ∀ (i j : Nat) (r : List D) (c : Value) (x : D), (rows ++ news)[i]? = some r → r[j]? = some x → (xs ++ cs)[i * sz + j]? = some c → DRep M c x := by
      intro rows xs cs hxl hrl h1 h2 hnl i j r c x hr hx hcc
      by_cases hi : i < rows.length
      ·rw [List.getElem?_append_left hi] at hr
       have hj : j < sz := by
        have := hrl r (List.mem_of_getElem? hr)
        have := (List.getElem?_eq_some_iff.1 hx).1; omega
       have hmul : (i + 1) * sz ≤ rows.length * sz := Nat.mul_le_mul_right _ hi
       rw [Nat.succ_mul] at hmul
       rw [List.getElem?_append_left (by omega)] at hcc
       exact h1 i j r c x hr hx hcc
      ·rw [List.getElem?_append_right (by omega)] at hr
       have hmul : rows.length * sz ≤ i * sz := Nat.mul_le_mul_right _ (by omega)
       rw [List.getElem?_append_right (by omega), hxl] at hcc
       have : i * sz + j - rows.length * sz = (i - rows.length) * sz + j := by rw [Nat.sub_mul]; omega
       rw [this] at hcc
       exact h2 _ j r c x hr hx hcc
     have exec : ∀ v w', (Builtin.append_ #[t, t] o.type #[a.eval p, a.eval q]).run C.P w = .ok v w' → t = t' → (execOp a.eval o).run C.P w = .ok (.value v) w' := by
      intro v w' h htt
      subst htt
      simp [execOp, ho, resolve, hc, hp, invoke, builtin, hty', h]
     split at hv
     ·rename_i n len hex
      rw [hex] at hx
      split at hv
      ·rename_i e' s' rows hcn
       obtain ⟨⟨htt, he, hss, hsz', hlen, hone, hby, hle⟩, hnew, hk⟩ := hv
       subst he; subst hss; subst hlen
       obtain ⟨hnl, cs, hcl, hsrc, hc1, hc2⟩ := src 0 hsz' hone
       have hn := hnew (nm d) (by simp)
       generalize hq : a.eval p = pv at hx
       cases hx with
       | vh n len l cc ad hE hl =>
        obtain ⟨xs, ho1, ho2, ho3, ho4⟩ := hs.own n _ hcn
        have hll : l = rows.length := by
         rcases ho1.2 with ⟨hn', hz'⟩ | ⟨g, cap, cur, hv', _⟩
         ·rw [hE] at hn'; simp at hn'; omega
         ·rw [hE] at hv'; simp at hv'; exact hv'.2.1
        subst hll
        rw [hE] at ho1
        obtain ⟨v', w', r1, r2, r3, r4⟩ := run_append_at (P := C.P) (w := w) t o.type e ii z sz bytes hu hii hz his hib hzs hpos _ rows.length xs ho1 (a.eval q) cs news.length hcl hsrc hc1 (by omega) hby
        refine wp_value (exec v' w' (by rw [hq]; exact r1) htt) ?_
        have hlen' : ∃ ad' cc', v' = .slice ad' (rows.length + news.length) cc' := by
         rcases r2.2 with ⟨h, h'⟩ | ⟨g, cap, cur, h, _⟩
         ·exact ⟨none, 0, by rw [h, h']⟩
         ·exact ⟨_, _, h⟩
        obtain ⟨ad', cc', hv'⟩ := hlen'
        have hmv := hs.own_step (E' := fun m => if m = nm d then v' else E m) (n := n) (d := nm d) (o' := .vec e sz (rows ++ news)) hcn (w' := w') (by rw [hE]; exact r3) (fun m hm => by simp [hm]) (.inr hn)
         (fun b hb => by simp at hb; rw [hE]; exact r4 b hb)
         (fun b hb => by
           simp at hb
           rcases r2.2 with ⟨h, _⟩ | ⟨g, cap, cur, h, _, hg, _⟩
           ·rw [h] at hb; simp [blockOf] at hb
           ·rw [h] at hb; simp [blockOf] at hb; subst hb; exact (Array.getElem?_eq_some_iff.1 hg).1)
         ⟨xs ++ cs, by simpa using r2, fun r hr => by
          rcases List.mem_append.1 hr with h | h
          ·exact ho2 r h
          ·exact hnl r h, glue rows xs cs ho1.1 ho2 ho3 hc2 hnl, fun b hb k => by
          simp at hb
          rcases r4 b hb with q | q
          ·exact ho4 b (by rw [hE]; exact q) k
          ·cases hm : M b k with
           | none => rfl
           | some u => have := hs.cell_lt hm; omega⟩
        have hrep : HRep (fun m => if m = nm d then v' else E m) M v' (.vh (nm d) (rows.length + news.length)) := by
         rw [hv']; exact HRep.vh _ _ (rows.length + news.length) cc' ad' (by simp) (Nat.le_refl _)
        exact hK _ _ _ _ _ hk (hmv.put o.dst hd hrep)
      ·exact hv.elim
     ·rename_i hex
      rw [hex] at hx; have hx := hx.dv
      obtain ⟨⟨htt, hsz', hone, hby, hle⟩, hnew, hk⟩ := hv
      obtain ⟨hnl, cs, hcl, hsrc, hc1, hc2⟩ := src 0 hsz' hone
      have hn := hnew (nm d) (by simp)
      obtain ⟨v', w', r1, r2, r3, r4⟩ := run_append_at (P := C.P) (w := w) t o.type e ii z sz bytes hu hii hz his hib hzs hpos (.slice none 0 0) 0 [] (World.ownsRow_nil w 0 e sz) (a.eval q) cs news.length hcl hsrc hc1 (by omega) (by simpa using hby)
      refine wp_value (exec v' w' (by rw [hx]; exact r1) htt) ?_
      have hlen' : ∃ ad' cc', v' = .slice ad' news.length cc' := by
       rcases r2.2 with ⟨h, h'⟩ | ⟨g, cap, cur, h, _⟩
       ·exact ⟨none, 0, by rw [h]; simp at h'; rw [h']; rfl⟩
       ·exact ⟨_, _, by simpa using h⟩
      obtain ⟨ad', cc', hv'⟩ := hlen'
      have r4' : ∀ b, blockOf v' = some b → w.heap.size ≤ b := fun b hb => by
       rcases r4 b hb with q | q
       ·simp [blockOf] at q
       ·exact q
      have hmv := hs.own_new (E' := fun m => if m = nm d then v' else E m) (d := nm d) (o' := .vec e sz news) (w' := w') r3 (fun m hm => by simp [hm]) hn.1 hn.2 (fun b hb => r4' b (by simpa [Own.foot] using hb))
       ⟨cs, by simpa using r2, hnl, hc2, fun b hb k => by
         have := r4' b (by simpa using hb)
         cases hm : M b k with
         | none => rfl
         | some u => have := hs.cell_lt hm; omega⟩
      have hrep : HRep (fun m => if m = nm d then v' else E m) M v' (.vh (nm d) news.length) := by
       rw [hv']; exact HRep.vh _ _ news.length cc' ad' (by simp) (Nat.le_refl _)
      exact hK _ _ _ _ _ hk (hmv.put o.dst hd hrep)
     ·exact hv.elim
    ·-- a text behind bytes
     rename_i s hey
     rw [hey] at hy; have hy := hy.dv
     have exec : ∀ v w', (Builtin.append_ #[t, t'] o.type #[a.eval p, a.eval q]).run C.P w = .ok v w' → (execOp a.eval o).run C.P w = .ok (.value v) w' := by
      intro v w' h
      simp [execOp, ho, resolve, hc, hp, invoke, builtin, hty', h]
     have rows1 : ∀ (l : List Int) (i j : Nat) (r : List D) (c : Value) (x : D), (l.map (row1 .u8))[i]? = some r → r[j]? = some x → (l.map (Value.int .u8))[i * 1 + j]? = some c → DRep M c x := by
      intro l i j r c x hr hx hc
      rw [List.getElem?_map, Option.map_eq_some_iff] at hr
      obtain ⟨n, hn', rfl⟩ := hr
      cases j with
      | zero =>
       simp only [row1, List.getElem?_cons_zero, Option.some.injEq] at hx
       subst hx
       simp only [Nat.mul_one, Nat.add_zero, List.getElem?_map, hn', Option.map_some, Option.some.injEq] at hc
       subst hc; exact .v _
      | succ j => simp [row1] at hx
     have hM1 : (1000000000000 : Nat) ≤ maxLen := by decide
     split at hv
     ·rename_i n len hex
      rw [hex] at hx
      split at hv
      ·rename_i e' s' rows hcn
       obtain ⟨⟨hus, hzx, rfl, rfl, rfl, rfl, rfl, hle⟩, hnew, hk⟩ := hv
       obtain ⟨i2, hi2, hz2⟩ := zeroX_int hzx
       rw [hii] at hi2; cases hi2
       have hn := hnew (nm d) (by simp)
       generalize hq : a.eval p = pv at hx
       cases hx with
       | vh n len l cc ad hE hl =>
        obtain ⟨xs, ho1, ho2, ho3, ho4⟩ := hs.own n _ hcn
        have hll : l = rows.length := by
         rcases ho1.2 with ⟨hn', hz'⟩ | ⟨g, cap, cur, hv', _⟩
         ·rw [hE] at hn'; simp at hn'; omega
         ·rw [hE] at hv'; simp at hv'; exact hv'.2.1
        subst hll
        rw [hE] at ho1
        obtain ⟨v', w', r1, r2, r3, r4⟩ := run_append_str_at (P := C.P) (w := w) t t' o.type e ii hu hus hii hz2 his hib _ rows.length xs ho1 s hle
        refine wp_value (exec v' w' (by rw [hq, hy]; exact r1)) ?_
        have hlen' : ∃ ad' cc', v' = .slice ad' (rows.length + s.size) cc' := by
         rcases r2.2 with ⟨h, h'⟩ | ⟨g, cap, cur, h, _⟩
         ·exact ⟨none, 0, by rw [h, h']⟩
         ·exact ⟨_, _, h⟩
        obtain ⟨ad', cc', hv'⟩ := hlen'
        have hbl : ∀ b, blockOf v' = some b → blockOf (E n) = some b ∨ w.heap.size ≤ b := fun b hb => by
         rw [hE]; exact r4 b hb
        have hmv := hs.own_step (E' := fun m => if m = nm d then v' else E m) (n := n) (d := nm d) (o' := .vec e 1 (rows ++ (Bs.ints s).map (row1 .u8))) hcn (w' := w') (by rw [hE]; exact r3) (fun m hm => by simp [hm]) (.inr hn)
         (fun b hb => by simp at hb; exact hbl b hb)
         (fun b hb => by
           simp at hb
           rcases r2.2 with ⟨h, _⟩ | ⟨g, cap, cur, h, _, hg, _⟩
           ·rw [h] at hb; simp [blockOf] at hb
           ·rw [h] at hb; simp [blockOf] at hb; subst hb; exact (Array.getElem?_eq_some_iff.1 hg).1)
         ⟨xs ++ (Bs.ints s).map (Value.int .u8), by simpa [ints_length] using r2, fun r hr => by
          rcases List.mem_append.1 hr with h | h
          ·exact ho2 r h
          ·obtain ⟨n, _, rfl⟩ := List.mem_map.1 h; rfl, fun i j r c x hr hx hcc => by
          have hxl : xs.length = rows.length := by simpa using ho1.1
          by_cases hi : i < rows.length
          ·rw [List.getElem?_append_left hi] at hr
           have hj : j < 1 := by
            have := ho2 r (List.mem_of_getElem? hr)
            have := (List.getElem?_eq_some_iff.1 hx).1; omega
           rw [List.getElem?_append_left (by omega)] at hcc
           exact ho3 i j r c x hr hx hcc
          ·rw [List.getElem?_append_right (by omega)] at hr
           rw [List.getElem?_append_right (by omega), hxl] at hcc
           have : i * 1 + j - rows.length = (i - rows.length) * 1 + j := by omega
           rw [this] at hcc
           exact rows1 _ _ j r c x hr hx hcc, fun b hb k => by
          simp at hb
          rcases hbl b hb with q | q
          ·exact ho4 b q k
          ·cases hm : M b k with
           | none => rfl
           | some u => have := hs.cell_lt hm; omega⟩
        have hrep : HRep (fun m => if m = nm d then v' else E m) M v' (.vh (nm d) (rows.length + (Bs.ints s).length)) := by
         rw [hv', ints_length]; exact HRep.vh _ _ (rows.length + s.size) cc' ad' (by simp) (Nat.le_refl _)
        exact hK _ _ _ _ _ hk (hmv.put o.dst hd hrep)
      ·exact hv.elim
     ·rename_i hex
      rw [hex] at hx; have hx := hx.dv
      obtain ⟨⟨hus, hzx, rfl, rfl, hle⟩, hnew, hk⟩ := hv
      obtain ⟨i2, hi2, hz2⟩ := zeroX_int hzx
      rw [hii] at hi2; cases hi2
      have hn := hnew (nm d) (by simp)
      obtain ⟨v', w', r1, r2, r3, r4⟩ := run_append_str_at (P := C.P) (w := w) t t' o.type e ii hu hus hii hz2 his hib (.slice none 0 0) 0 [] (World.ownsRow_nil w 0 e 1) s (by omega)
      refine wp_value (exec v' w' (by rw [hx, hy]; exact r1)) ?_
      have hlen' : ∃ ad' cc', v' = .slice ad' s.size cc' := by
       rcases r2.2 with ⟨h, h'⟩ | ⟨g, cap, cur, h, _⟩
       ·exact ⟨none, 0, by rw [h]; have h0 : s.size = 0 := (by omega); rw [h0]⟩
       ·exact ⟨_, _, by simpa using h⟩
      obtain ⟨ad', cc', hv'⟩ := hlen'
      have r4' : ∀ b, blockOf v' = some b → w.heap.size ≤ b := fun b hb => by
       rcases r4 b hb with q | q
       ·simp [blockOf] at q
       ·exact q
      have hmv := hs.own_new (E' := fun m => if m = nm d then v' else E m) (d := nm d) (o' := .vec e 1 ((Bs.ints s).map (row1 .u8))) (w' := w') r3 (fun m hm => by simp [hm]) hn.1 hn.2 (fun b hb => r4' b (by simpa [Own.foot] using hb))
       ⟨(Bs.ints s).map (Value.int .u8), by simpa [ints_length] using r2, fun r hr => by
         obtain ⟨n, _, rfl⟩ := List.mem_map.1 hr; rfl, rows1 _, fun b hb k => by
         have := r4' b (by simpa using hb)
         cases hm : M b k with
         | none => rfl
         | some u => have := hs.cell_lt hm; omega⟩
      have hrep : HRep (fun m => if m = nm d then v' else E m) M v' (.vh (nm d) (Bs.ints s).length) := by
       rw [hv', ints_length]; exact HRep.vh _ _ s.size cc' ad' (by simp) (Nat.le_refl _)
      exact hK _ _ _ _ _ hk (hmv.put o.dst hd hrep)
     ·exact hv.elim
    ·exact hv.elim
   ·exact hv.elim
  ·exact hv.elim
 ·-- the address of a slice's elements
  rename_i x hargs
  obtain ⟨p, hp, rfl⟩ := map_one hargs
  have hx := hs.ev p
  split at hv
  ·rename_i n len he
   rw [he] at hx
   split at hv
   ·rename_i e z rows hown
    obtain ⟨hip, _, hk⟩ := hv
    generalize hq : a.eval p = q at hx
    cases hx with
    | vh n len l cc ad hE hl =>
     obtain ⟨xs, ho1, _⟩ := hs.own n _ hown
     rw [hE] at ho1
     have exec : ∀ v w', (Builtin.unsafeSliceData_ c.argTypes o.type #[a.eval p]).run C.P w = .ok v w' → (execOp a.eval o).run C.P w = .ok (.value v) w' := by
      intro v w' h
      simp [execOp, ho, resolve, hc, hp, invoke, builtin, h]
     rcases ho1.2 with ⟨hn', hz'⟩ | ⟨g, cap, cur, hv', _, hg, hnc, hcm, hcs, _⟩
     ·simp only [Value.slice.injEq] at hn'
      obtain ⟨rfl, rfl, rfl⟩ := hn'
      refine wp_value (exec _ w (by rw [hq]; exact Lib.run_unsafeSliceData_nil _ _ _ _ _)) (hK _ _ _ _ _ hk (hs.app_val hd rfl (.sd n none fun a l c he' _ => ?_)))
      rw [hE] at he'; simp only [Value.slice.injEq] at he'; exact he'.1
     ·simp only [Value.slice.injEq] at hv'
      obtain ⟨rfl, rfl, rfl⟩ := hv'
      by_cases hc0 : cc = 0
      ·subst hc0
       unfold isPtr at hip
       split at hip
       ·rename_i e' he'
        have hsh : w.shape? g = some (e, cur.size) := by simp [World.shape?, hg]
        refine wp_value (exec _ _ (by rw [hq]; exact Lib.run_unsafeSliceData_zero _ _ _ e' he' _ _ _ hsh)) ?_
        have h1 := hs.ro_new (M' := M) (World.grownBy_alloc w (.view ⟨g, 0, none⟩ e') none) (Mem.le_refl M) (fun b o v h => .inl h) (fun b o v h hb => by have := hs.cell_lt h; omega)
        refine hK _ _ _ _ _ hk (h1.app_val hd rfl (.sd n _ fun a l c he' hl0 => ?_))
        rw [hE] at he'; simp only [Value.slice.injEq] at he'; omega
       ·cases hip
      ·refine wp_value (exec _ w (by rw [hq]; exact Lib.run_unsafeSliceData_row _ _ _ _ _ _ hc0)) (hK _ _ _ _ _ hk (hs.app_val hd rfl (.sd n _ fun a l c he' _ => ?_)))
       rw [hE] at he'; simp only [Value.slice.injEq] at he'; exact he'.1
   ·exact hv.elim
  ·exact hv.elim
 ·-- the text of bytes that are owned
  rename_i x y hargs
  obtain ⟨p, q, hp, rfl, rfl⟩ := map_two hargs
  have hx := hs.ev p
  have hy := hs.ev q
  split at hv
  ·rename_i n ki l hex hey
   rw [hex] at hx; rw [hey] at hy
   have hy := hy.dv
   split at hv
   ·rename_i e z rows hown
    split at hv
    ·rename_i ns pt it hns hty
     obtain ⟨⟨hpt, hce, rfl, rfl, rfl, hle⟩, _, hk⟩ := hv
     have hrows := intsD_spec hns
     subst hrows
     have hty' : c.argTypes = #[pt, it] := by rw [← Array.toList_inj]; simpa using hty
     have exec : ∀ v w', (Builtin.unsafeString_ #[pt, it] o.type #[a.eval p, a.eval q]).run C.P w = .ok v w' → (execOp a.eval o).run C.P w = .ok (.value v) w' := by
      intro v w' h
      simp [execOp, ho, resolve, hc, hp, invoke, builtin, hty', h]
     generalize hq : a.eval p = pv at hx
     cases hx with
     | sd n pp hsd =>
      obtain ⟨xs, ho1, ho2, ho3, ho4⟩ := hs.own n _ hown
      have fin : ∀ w', w.grownBy w' (blockOf (E n)) → (Builtin.unsafeString_ #[pt, it] o.type #[a.eval p, a.eval q]).run C.P w = .ok (.string (Bs.bytes ns)) w' → o.wp C.P a w K Q := by
       intro w' hg hr
       have h1 := (hs.own_drop hown hg).put o.dst hd (x := .d (.v (.string (Bs.bytes ns)))) (.d (.v _))
       exact wp_value (exec _ _ hr) (hK _ _ _ _ _ hk h1)
      by_cases h0 : ns = []
      ·subst h0
       refine fin w ⟨rfl, rfl, rfl, Nat.le_refl _, fun _ _ _ => rfl⟩ ?_
       rw [hq, hy]
       exact Lib.run_unsafeString_none w pt it o.type pp
      ·rcases ho1.2 with ⟨hn', hz'⟩ | ⟨g, cap, cur, hv', _, hg, hnc, hcm, hcs, htake⟩
       ·exact (h0 (by simpa using hz')).elim
       ·have hpp := hsd _ _ _ hv' (by simpa using h0)
        subst hpp
        have hsh : w.shape? g = some (e, cur.size) := by simp [World.shape?, hg]
        simp only [List.length_map] at hnc htake hv'
        refine fin (w.freeze ⟨g, 0, none⟩ ns.length) ?_ ?_
        ·rw [hv']
         refine ⟨?_, ?_, ?_, ?_, fun k hk hne => ?_⟩
         ·unfold World.freeze; split <;> rfl
         ·unfold World.freeze; split <;> rfl
         ·unfold World.freeze; split <;> rfl
         ·unfold World.freeze; split <;> simp
         ·unfold World.freeze
          split
          ·rfl
          ·have hgk : ¬ g = k := fun e => hne (by simp [blockOf, e])
           simp [Array.getElem?_modify, hgk]
        ·rw [hq, hy]
         simp only [List.length_map]
         refine run_unsafeString_ints pt it o.type e hpt hce g cur.size hsh ns h0 (by omega) (by simp at hle; omega) fun j x hj => ?_
         rw [addr_add, Nat.zero_add, cell_of_row w g j cur e (0, 0) hg]
         have hjl : j < ns.length := (List.getElem?_eq_some_iff.1 hj).1
         have hxl : xs.length = ns.length := by simpa using ho1.1
         have hxj : xs[j]? = some xs[j] := List.getElem?_eq_getElem (by omega)
         have hd := ho3 j 0 (row1 .u8 x) xs[j] (.v (.int .u8 x)) (by rw [List.getElem?_map, hj]; rfl) rfl (by simp)
         have hxe : xs[j] = .int .u8 x := by generalize xs[j] = u at hd; cases hd; rfl
         rw [hxe, ← htake, List.getElem?_take] at hxj
         split at hxj
         ·simpa using hxj
         ·omega
    ·exact hv.elim
   ·exact hv.elim
  ·exact hv.elim
 ·exact hv.elim
theorem ok_makeSlice {t : TypeId} {l c : Operand} (ho : o.op = .makeSlice t l c) : OpOk C nm o := by
 intro E M S a w K Q k hs hv hK
 simp only [AVal, ho] at hv
 split at hv
 ·rename_i e sz by_ d ht hdst
  obtain ⟨ii, z0, hu, hii, hz, hzs, his, hib, hpos⟩ := elemTy_spec ht
  split at hv
  ·rename_i z kl n kc m hzd hl hc
   obtain ⟨⟨hnm, hn0, hm0, hm1, hb⟩, hnw, hk⟩ := hv
   have hn := hnw (nm d) (by simp)
   have hz' : z = z0.cells.toList := by
    unfold zeroD at hzd
    rw [hii] at hzd
    simp only [hz] at hzd
    simpa using hzd.symm
   subst hz'
   have el : a.eval l = .int kl n := by have := hs.ev l; rw [hl] at this; exact this.dv
   have ec : a.eval c = .int kc m := by have := hs.ev c; rw [hc] at this; exact this.dv
   obtain ⟨N, rfl⟩ : ∃ N : Nat, m = N := ⟨m.toNat, by omega⟩
   have hbytes : ii.bytes * N ≤ 281474976710656 := by
    rw [hib]
    have h1 : by_ * N ≤ 32768 * 4294967296 := Nat.mul_le_mul hb (by omega)
    omega
   have hmx : N ≤ maxLen := by
    have : (4294967296 : Nat) ≤ maxLen := by decide
    omega
   have hsz : z0.cells.toList.length = sz := by simpa using hzs
   have hrun : ∃ (w' : World) (xs : List Value), (execOp a.eval o).run C.P w = .ok (.value (.slice (some ⟨w.heap.size, 0, none⟩) n.toNat N)) w' ∧ w'.ownsRow 0 e sz (.slice (some ⟨w.heap.size, 0, none⟩) n.toNat N) n.toNat xs ∧ w.grownBy w' none ∧
     ∀ (i j : Nat) (c : Value) (x : Value), i < n.toNat → z0.cells.toList[j]? = some x → xs[i * sz + j]? = some c → c = x := by
    rcases hnm with rfl | rfl
    ·obtain ⟨w', r1, r2, r3⟩ := run_make_full (P := C.P) (w := w) 0 t e ii z0 sz hu hii hz his kl kc N hbytes hmx (Nat.zero_le _)
     refine ⟨w', _, ?_, by simpa using r2, r3, fun i j c x hi hj hc => ?_⟩
     ·simp only [execOp, ho, el, ec, Sem.run_bind, r1, Result.andThen_ok, Sem.run_pure]
      rfl
     ·have hjs : j < sz := by rw [← hsz]; exact (List.getElem?_eq_some_iff.1 hj).1
      have hlt : i * sz + j < N * sz := by
       have : (i + 1) * sz ≤ N * sz := Nat.mul_le_mul_right _ (by have : ((N : Int)).toNat = N := Int.toNat_natCast N; omega)
       rw [Nat.succ_mul] at this; omega
      have hmod : (i * sz + j) % sz = j := by rw [Nat.add_comm, Nat.add_mul_mod_self_right, Nat.mod_eq_of_lt hjs]
      simp only [madeCells, Array.toList_map, Array.toList_range, List.getElem?_map, List.getElem?_range hlt, Option.map_some, Option.some.injEq] at hc
      rw [hzs, hmod] at hc
      rw [← hc]
      have hj' : z0.cells[j]? = some x := by simpa using hj
      rw [getElem!_def, hj']
    ·obtain ⟨w', r1, r2, r3⟩ := run_make_own (P := C.P) (w := w) 0 t e ii z0 sz hu hii hz his kl kc N hbytes hmx (Nat.zero_le _)
     refine ⟨w', [], ?_, by simpa using r2, r3, fun i j c x hi => by simp at hi⟩
     simp only [execOp, ho, el, ec, Sem.run_bind, r1, Result.andThen_ok, Sem.run_pure]
     rfl
   obtain ⟨w', xs, r1, r2, r3, r4⟩ := hrun
   refine wp_value r1 ?_
   have hnew : ∀ (k : Nat), M w.heap.size k = none := by
    intro k
    cases hm : M w.heap.size k with
    | none => rfl
    | some v => have := hs.cell_lt hm; omega
   have h1 := hs.own_new (E' := fun m => if m = nm d then .slice (some ⟨w.heap.size, 0, none⟩) n.toNat N else E m) (d := nm d) (o' := .vec e sz (List.replicate n.toNat (z0.cells.toList.map .v))) r3
    (fun m hm => by simp [hm]) hn.1 hn.2 (fun b hb => by simp [Own.foot, blockOf] at hb; omega)
    ⟨xs, by simpa using r2, fun r hr => by rw [List.eq_of_mem_replicate hr, List.length_map]; exact hsz, fun i j r c x hr hx hc => by
     have hi : i < n.toNat := by have := (List.getElem?_eq_some_iff.1 hr).1; simpa using this
     have hr' : r = z0.cells.toList.map .v := by
      rw [List.getElem?_replicate, if_pos hi] at hr
      simpa using hr.symm
     subst hr'
     rw [List.getElem?_map, Option.map_eq_some_iff] at hx
     obtain ⟨y, hy, rfl⟩ := hx
     rw [r4 i j c y hi hy hc]
     exact .v y, fun b hb k => by simp [blockOf] at hb; subst hb; exact hnew k⟩
   have h2 := h1.put o.dst hd (HRep.vh (nm d) n.toNat n.toNat N (some ⟨w.heap.size, 0, none⟩) (by simp) (Nat.le_refl _))
   exact hK _ _ _ _ _ hk (by rw [hdst] at h2 ⊢; exact h2.weaken (fun t x hx => .inl hx) (fun m p hm => hm))
  ·exact hv.elim
 ·exact hv.elim
theorem ok_makeMap {t : TypeId} {hint : Option Operand} (ho : o.op = .makeMap t hint) : OpOk C nm o := by
 intro E M S a w K Q k hs hv hK
 simp only [AVal, ho] at hv
 split at hv
 ·rename_i kt et d hu hdst
  obtain ⟨hh, hnw, hk⟩ := hv
  have hn := hnw (nm d) (by simp)
  have hrun : (execOp a.eval o).run C.P w = .ok (.value (.map (some w.heap.size))) (w.alloc (.map #[] 0)) := by
   cases hint with
   | none => simp only [execOp, ho, Option.map_none, Instr.makeMap, Sem.run_bind, run_newObj_alloc, Result.andThen_ok, Sem.run_pure]
   | some x =>
    have hx := hs.ev x
    simp only [hintOk] at hh
    split at hh
    ·rename_i ki m he
     rw [he] at hx
     have hx := hx.dv
     simp only [execOp, ho, Option.map_some, hx, Instr.makeMap, asInt, asIntOf, Sem.run_bind, run_underlying hu, run_newObj_alloc, Result.andThen_ok, Sem.run_pure]
    ·cases hh
  refine wp_value hrun ?_
  have hnew : ∀ (k : Nat), M w.heap.size k = none := by
   intro k
   cases hm : M w.heap.size k with
   | none => rfl
   | some v => have := hs.cell_lt hm; omega
  have h1 := hs.own_new (E' := fun m => if m = nm d then .map (some w.heap.size) else E m) (d := nm d) (o' := .map []) (World.grownBy_alloc w (.map #[] 0) none)
   (fun m hm => by simp [hm]) hn.1 hn.2 (fun b hb => by simp [Own.foot, blockOf] at hb; omega)
   ⟨w.heap.size, #[], 0, by simp, heap_alloc_new w _, List.nodup_nil, ⟨[], .refl _, rfl, fun i e p he => by simp at he⟩, ⟨by simp, by simp⟩, hnew⟩
  have h2 := h1.put o.dst hd (HRep.mp (nm d) w.heap.size (by simp))
  exact hK _ _ _ _ _ hk (by rw [hdst] at h2 ⊢; exact h2.weaken (fun t x hx => .inl hx) (fun m p hm => hm))
 ·exact hv.elim
theorem ok_lookup {t : TypeId} {x i : Operand} {commaOk : Bool} (ho : o.op = .lookup t x i commaOk) : OpOk C nm o := by
 intro E M S a w K Q k hs hv hK
 simp only [AVal, ho] at hv
 split at hv
 ·rename_i kt et hu
  split at hv
  ·rename_i kind z n key hkt hz hx hi
   split at hv
   ·rename_i es hown
    split at hv
    ·rename_i q hq
     have hv' : (simpleKey kind = true ∧ strictM kind key es = true) ∧ k { val := if commaOk = true then .tup [.d (q.getD z), .d (.v (.bool q.isSome))] else .d (q.getD z), acc := [n] } := by
      cases commaOk with
      | true => exact ⟨hv.1, hv.2.2⟩
      | false => exact ⟨hv.1, hv.2.2⟩
     clear hv
     obtain ⟨⟨hsk, hst⟩, hk⟩ := hv'
     have ei : a.eval i = key := by have := hs.ev i; rw [hi] at this; exact this.dv
     have hxv := hs.ev x
     rw [hx] at hxv
     generalize hxq : a.eval x = xv at hxv
     cases hxv with
     | mp n b hE =>
      obtain ⟨b', es', clock, h1, h2, h3, h4, h6, h5⟩ := hs.own n _ hown
      rw [hE] at h1; cases h1
      obtain ⟨z', hz1, hz2⟩ := zeroX_spec hz
      have key' : ∃ v ok, (Instr.lookup t (.map (some b)) key commaOk).run C.P w = .ok (if commaOk then .tuple #[v, .bool ok] else v) w ∧ DRep M v (q.getD z) ∧ ok = q.isSome := by
       rcases findM_perm h3 h4 hst hq with ⟨rfl, hf⟩ | ⟨j, v, d, rfl, hf, hd'⟩
       ·refine ⟨z', false, ?_, hz2 M, rfl⟩
        simp only [Instr.lookup, Sem.run_bind, run_underlying hu, Result.andThen_ok, MapKept.run_getObj_map h2, Sem.run_pure, run_checkKey_simple hkt hsk, Instr.findKey, run_underlying hkt, hf, hz1]
        try (cases commaOk <;> rfl)
       ·refine ⟨v, true, ?_, hd', rfl⟩
        simp only [Instr.lookup, Sem.run_bind, run_underlying hu, Result.andThen_ok, MapKept.run_getObj_map h2, Sem.run_pure, run_checkKey_simple hkt hsk, Instr.findKey, run_underlying hkt, hf]
        try (cases commaOk <;> rfl)
      obtain ⟨v, ok, hr, hdv, hok⟩ := key'
      subst hok
      refine wp_value (v := if commaOk then .tuple #[v, .bool q.isSome] else v) (w' := w) ?_ (hK _ _ _ _ _ hk (hs.app_val hd rfl ?_))
      ·simp only [execOp, ho, hxq, ei, Sem.run_bind, hr, Result.andThen_ok, Sem.run_pure]
      ·cases commaOk with
       | false => simp only [Bool.false_eq_true, if_false]; exact .d hdv
       | true =>
        simp only [if_true]
        refine .tup _ _ rfl fun i c y hc hy => ?_
        match i with
        | 0 => simp at hc hy; subst hc; subst hy; exact .d hdv
        | 1 => simp at hc hy; subst hc; subst hy; exact .d (.v _)
        | i + 2 => simp at hc
    ·exact hv.elim
   ·exact hv.elim
  ·exact hv.elim
 ·exact hv.elim
omit hd in
theorem stamps_push {es : Array MapEntry} {clock : Nat} (h : Stamps es clock) {key val : Value} : Stamps (es.push { key := key, val := val, born := clock }) (clock + 1) := by
 refine ⟨fun e he => ?_, ?_⟩
 ·simp only [Array.toList_push, List.mem_append, List.mem_singleton] at he
  rcases he with he | rfl
  ·exact Nat.lt_succ_of_lt (h.1 e he)
  ·exact Nat.lt_succ_self _
 ·simp only [Array.toList_push, List.map_append, List.map_cons, List.map_nil, List.nodup_append]
  refine ⟨h.2, by simp, fun a ha b hb => ?_⟩
  simp at hb; subst hb
  obtain ⟨e, he, rfl⟩ := List.mem_map.1 ha
  exact Nat.ne_of_lt (h.1 e he)
omit hd in
theorem stamps_modify {es : Array MapEntry} {clock : Nat} (h : Stamps es clock) {j : Nat} {f : MapEntry → MapEntry} (hf : ∀ e, (f e).born = e.born) : Stamps (es.modify j f) clock := by
 have hm : (es.modify j f).toList.map (·.born) = es.toList.map (·.born) := by
  apply List.ext_getElem?
  intro i
  simp only [List.getElem?_map, Array.getElem?_toList, Array.getElem?_modify]
  split
  ·cases es[i]? with
   | none => rfl
   | some e => simp [hf]
  ·rfl
 refine ⟨fun e he => ?_, by rw [hm]; exact h.2⟩
 have : e.born ∈ (es.modify j f).toList.map (·.born) := List.mem_map_of_mem (f := (·.born)) he
 rw [hm] at this
 obtain ⟨e', he', hb⟩ := List.mem_map.1 this
 rw [← hb]; exact h.1 e' he'
theorem ok_updM {t : TypeId} {x i y : Operand} (hrun : ∀ (ρ : Operand → Value) (w w' : World), (Instr.mapUpdate t (ρ x) (ρ i) (ρ y)).run C.P w = .ok () w' → (execOp ρ o).run C.P w = .ok .skip w')
  (hval : ∀ (ρ : Operand → H) (ω : Nat → Option Own) (k : Eff → Prop), AVal C.P nm o ρ ω k → updM C.P ρ ω t x i y k) : OpOk C nm o := by
 intro E M S a w K Q k hs hv hK
 have hv := hval _ _ _ hv
 simp only [updM] at hv
 split at hv
 ·rename_i kt et hu
  split at hv
  ·rename_i kind n key dv hkt hx hi hy
   split at hv
   ·rename_i es hown
    split at hv
    ·rename_i es2 hq
     obtain ⟨⟨hsk, hst⟩, es5, hpm, _, hk⟩ := hv
     have ei : a.eval i = key := by have := hs.ev i; rw [hi] at this; exact this.dv
     have ey : DRep M (a.eval y) dv := by have := hs.ev y; rw [hy] at this; exact this.toD
     have hxv := hs.ev x
     rw [hx] at hxv
     generalize hxq : a.eval x = xv at hxv
     cases hxv with
     | mp n b hE =>
      obtain ⟨b', es', clock, h1, h2, h3, h4, h6, h5⟩ := hs.own n _ hown
      rw [hE] at h1; cases h1
      have hblt : b < w.heap.size := (Array.getElem?_eq_some_iff.1 h2).1
      have key' : ∃ (es3 : Array MapEntry) (clock' : Nat), (Instr.mapUpdate t (.map (some b)) key (a.eval y)).run C.P w = .ok () { w with heap := w.heap.setIfInBounds b (.map es3 clock') } ∧ KeysNd es2 ∧
        Entries M es3.toList es2 ∧ Stamps es3 clock' := by
       rcases setM_perm h3 h4 hst hq with ⟨hf, g1, g2⟩ | ⟨j, v, e0, hf, he0, hsame, g1, g2⟩
       ·refine ⟨es'.push { key := key, val := a.eval y, born := clock }, clock + 1, ?_, g1, ?_, stamps_push h6⟩
        ·simp only [Instr.mapUpdate, Sem.run_bind, run_underlying hu, Result.andThen_ok, MapKept.run_getObj_map h2, run_checkKey_simple hkt hsk, Instr.findKey, run_underlying hkt, hf, Sem.run_pure, MapKept.run_setObj_map _ h2]
        ·rw [Array.toList_push]
         exact g2 _ rfl ey
       ·have hge : es'[j]? = some e0 := by simpa using he0
        refine ⟨es'.modify j fun e => { e with key := key, val := a.eval y }, clock, ?_, g1, ?_, stamps_modify h6 (fun _ => rfl)⟩
        ·have hkeep : (Instr.keyThatStays (((es'[j]?).map (·.key)).getD key) key).run C.P w = .ok key w := by
          simp only [Instr.keyThatStays, hge, Option.map_some, Option.getD_some, sameBits_of hsame, if_true, Sem.run_pure]
         simp only [Instr.mapUpdate, Sem.run_bind, run_underlying hu, Result.andThen_ok, MapKept.run_getObj_map h2, run_checkKey_simple hkt hsk, Instr.findKey, run_underlying hkt, hf, Sem.run_pure, hkeep, MapKept.run_setObj_map _ h2]
        ·have hl : (es'.modify j fun e => { e with key := key, val := a.eval y }).toList = es'.toList.set j { e0 with key := key, val := a.eval y } := by
          apply List.ext_getElem?
          intro i
          rw [Array.getElem?_toList, Array.getElem?_modify, List.getElem?_set]
          by_cases hij : j = i
          ·subst hij
           have hj : j < es'.toList.length := (List.getElem?_eq_some_iff.1 he0).1
           rw [if_pos rfl, if_pos rfl, if_pos hj, hge]; rfl
          ·rw [if_neg hij, if_neg hij, Array.getElem?_toList]
         rw [hl]
         exact g2 _ rfl ey
      obtain ⟨es3, clock', hr, hnd, hrep, hst3⟩ := key'
      refine wp_skip' (w' := { w with heap := w.heap.setIfInBounds b (.map es3 clock') }) ?_ ?_
      ·exact hrun a.eval w _ (by rw [hxq, ei]; exact hr)
      ·have hmv := hs.own_step (E' := E) (n := n) (d := n) (o' := .map es5) hown (w' := { w with heap := w.heap.setIfInBounds b (.map es3 clock') })
        (by rw [hE]; exact ⟨rfl, rfl, rfl, by simp, fun k hk hne => by simp only [blockOf] at hne; rw [Array.getElem?_setIfInBounds_ne (by intro e; subst e; exact hne rfl)]⟩) (fun _ _ => rfl) (.inl ⟨rfl, rfl⟩) (fun b' hb => .inl hb)
        (fun b' hb => by have := hs.block_lt hown hb; simpa using this)
        ⟨b, es3, clock', hE, by simp [hblt], hnd.perm hpm.symm, hrep.perm hpm.symm, hst3, fun k => ((hs.own n _ hown).block (b := b) (by rw [hE]; rfl)).2 k⟩
       have hp := hmv.put o.dst hd (HRep.junk undef)
       refine hK _ _ _ _ _ hk (hp.weaken (fun t x hx => .inl hx) (fun m p hm => ?_))
       simp only [AState.own?, AState.app, List.cons_append, List.nil_append, gt_cons] at hm ⊢
       by_cases hnm : n = m
       ·rw [if_pos hnm] at hm ⊢; exact hm
       ·rw [if_neg hnm] at hm ⊢; rw [if_neg hnm]; exact hm
    ·exact hv.elim
   ·exact hv.elim
  ·exact hv.elim
 ·exact hv.elim
theorem ok_mapUpdate {t : TypeId} {x i y : Operand} (ho : o.op = .mapUpdate t x i y) : OpOk C nm o :=
 ok_updM hd (x := x) (i := i) (y := y) (t := t) (fun ρ w w' h => by simp only [execOp, ho, Sem.run_bind, h, Result.andThen_ok, Sem.run_pure]) fun ρ ω k h => by simpa only [AVal, ho] using h
theorem ok_insert {t : TypeId} {x i y : Operand} (ho : o.op = .insert t x i y) : OpOk C nm o :=
 ok_updM hd (x := x) (i := i) (y := y) (t := t) (fun ρ w w' h => by simp only [execOp, ho, Sem.run_bind, h, Result.andThen_ok, Sem.run_pure]) fun ρ ω k h => by simpa only [AVal, ho] using h
theorem ok_range {t : TypeId} {x : Operand} (ho : o.op = .range t x) : OpOk C nm o := by
 intro E M S a w K Q k hs hv hK
 simp only [AVal, ho] at hv
 split at hv
 ·rename_i s d hu hx hdst
  obtain ⟨hnw, hk⟩ := hv
  have hn := hnw (nm d) (by simp)
  have ex : a.eval x = .string s := by have := hs.ev x; rw [hx] at this; exact this.dv
  have hrun : (execOp a.eval o).run C.P w = .ok (.value (.pointer (some ⟨w.heap.size, 0, none⟩))) (w.alloc (.stringIter s 0)) := by
   simp only [execOp, ho, ex, Instr.range, Sem.run_bind, run_underlying hu, run_newObj_alloc, Result.andThen_ok, Sem.run_pure]
  refine wp_value hrun ?_
  have hnew : ∀ (k : Nat), M w.heap.size k = none := by
   intro k
   cases hm : M w.heap.size k with
   | none => rfl
   | some v => have := hs.cell_lt hm; omega
  have h1 := hs.own_new (E' := fun m => if m = nm d then .pointer (some ⟨w.heap.size, 0, none⟩) else E m) (d := nm d) (o' := .iter s 0) (World.grownBy_alloc w (.stringIter s 0) none)
   (fun m hm => by simp [hm]) hn.1 hn.2 (fun b hb => by simp [Own.foot, blockOf] at hb; omega)
   ⟨w.heap.size, by simp, heap_alloc_new w _, hnew⟩
  have h2 := h1.put o.dst hd (HRep.bp (nm d) 0 w.heap.size (by simp))
  exact hK _ _ _ _ _ hk (by rw [hdst] at h2 ⊢; exact h2.weaken (fun t x hx => .inl hx) (fun m p hm => hm))
 ·rename_i kt et m d hu hx hdst
  split at hv
  ·rename_i es hown
   obtain ⟨hnw, hk⟩ := hv
   have hn := hnw (nm d) (by simp)
   have hxv := hs.ev x
   rw [hx] at hxv
   generalize hxq : a.eval x = xv at hxv
   cases hxv with
   | mp m b hE =>
    obtain ⟨b', es', clock, h1, h2, h3, h4, h6, h5⟩ := hs.own m _ hown
    rw [hE] at h1; cases h1
    have hblt : b < w.heap.size := (Array.getElem?_eq_some_iff.1 h2).1
    have hne : nm d ≠ m := fun e => by have := hn.1; rw [e] at this; simp [AState.fresh, hown] at this
    have hrun : (execOp a.eval o).run C.P w = .ok (.value (.pointer (some ⟨w.heap.size, 0, none⟩))) (w.alloc (.mapIter (some b) clock #[] clock)) := by
     simp only [execOp, ho, hxq, Instr.range, Sem.run_bind, run_underlying hu, MapKept.run_getObj_map h2, run_newObj_alloc, Result.andThen_ok, Sem.run_pure]
    refine wp_value hrun ?_
    have hnew : ∀ (k : Nat), M w.heap.size k = none := by
     intro k
     cases hm : M w.heap.size k with
     | none => rfl
     | some v => have := hs.cell_lt hm; omega
    have hga := World.grownBy_alloc w (.mapIter (some b) clock #[] clock) none
    have hold : (w.alloc (.mapIter (some b) clock #[] clock)).heap[b]? = w.heap[b]? := hga.block b hblt (by simp)
    have hmv := hs.own_step (E' := fun k => if k = nm d then .pointer (some ⟨w.heap.size, 0, none⟩) else E k) (n := m) (d := nm d) (o' := .miter m es es none) hown (w' := w.alloc (.mapIter (some b) clock #[] clock))
     ⟨hga.os, hga.tape, hga.output, hga.size, fun k hk _ => hga.block k hk (by simp)⟩ (fun k hk => by simp [hk]) (.inr hn)
     (fun b' hb => by
       simp only [if_true] at hb
       rcases hb with hb | ⟨r, s1, s2, s3, hb, h⟩
       ·simp [blockOf] at hb; exact .inr (by omega)
       ·simp [blockOf] at hb; subst hb
        rw [heap_alloc_new] at h; cases h
        exact .inl (by rw [hE]; rfl))
     (fun b' hb => by simp [blockOf] at hb; subst hb; exact (Array.getElem?_eq_some_iff.1 (heap_alloc_new w _)).1)
     ⟨w.heap.size, b, es', clock, clock, #[], clock, by simp, by simp [Ne.symm hne]; exact hE, by omega, heap_alloc_new w _, by rw [hold]; exact h2, h3, h4, h6, ⟨Nat.le_refl _, Nat.le_refl _⟩, h6.1, (fun p hp => by cases hp),
      by rw [List.filter_eq_self.2 (fun e _ => by simp)]; exact h4, hnew, h5⟩
    have h2 := hmv.put o.dst hd (HRep.bp (nm d) 0 w.heap.size (by simp))
    exact hK _ _ _ _ _ hk (by rw [hdst] at h2 ⊢; exact h2.weaken (fun t x hx => .inl hx) (fun m p hm => hm))
  ·exact hv.elim
 ·exact hv.elim
omit hd in
theorem run_getObj_iter {P : Program} {w : World} {r : Nat} {s : ByteArray} {p : Nat} (hb : w.heap[r]? = some (.stringIter s p)) : (getObj r).run P w = .ok (.stringIter s p) w := by
 simp [getObj, Sem.run, hb]
omit hd in
theorem run_setObj_iter {P : Program} {w : World} {r : Nat} {s : ByteArray} {p : Nat} (o : Obj) (hb : w.heap[r]? = some (.stringIter s p)) : (setObj r o).run P w = .ok () { w with heap := w.heap.setIfInBounds r o } := by
 simp [setObj, Sem.run, hb]
omit hd in
theorem filter_erase {l : List MapEntry} (hn : (l.map (·.born)).Nodup) : ∀ {i : Nat} {e : MapEntry}, l[i]? = some e → l.filter (fun x => !(x.born == e.born)) = l.eraseIdx i := by
 induction l with
 | nil => intro i e h; simp at h
 | cons x r ih =>
  intro i e h
  rw [List.map_cons, List.nodup_cons] at hn
  cases i with
  | zero =>
   simp at h; subst h
   rw [List.eraseIdx_cons_zero, List.filter_cons]
   simp only [beq_self_eq_true, Bool.not_true, Bool.false_eq_true, if_false]
   refine List.filter_eq_self.2 fun y hy => ?_
   have : y.born ≠ x.born := fun hb => hn.1 (by rw [← hb]; exact List.mem_map_of_mem (f := (·.born)) hy)
   simpa using this
  | succ i =>
   have he : e ∈ r := List.mem_of_getElem? (by simpa using h)
   have hne : x.born ≠ e.born := fun hb => hn.1 (by rw [hb]; exact List.mem_map_of_mem (f := (·.born)) he)
   rw [List.eraseIdx_cons_succ, List.filter_cons, ← ih hn.2 (by simpa using h)]
   simp [hne]
theorem ok_nextM {x : Operand} (ho : o.op = .next x false) : OpOk C nm o := by
 intro E M S a w K Q k hs hv hK
 simp only [AVal, ho] at hv
 split at hv
 ·rename_i n off hx
  split at hv
  ·rename_i m es rest cur hown
   have hxv := hs.ev x
   rw [hx] at hxv
   generalize hxq : a.eval x = xv at hxv
   cases hxv with
   | bp n off r hE =>
    obtain ⟨rfl, hv0, hv1⟩ := hv
    obtain ⟨r', b, es', clock, since, seen, last, h1, h2, h3, h4, h5, h6, h7, h8, h9, h10, h11, ⟨l', p1, p2, p3⟩, h12, h13⟩ := hs.own n _ hown
    rw [hE] at h1; cases h1
    have hrlt : r < w.heap.size := (Array.getElem?_eq_some_iff.1 h4).1
    have hnd : ((es'.toList.filter fun e => !seen.contains e.born).map (·.born)).Nodup := h8.2.sublist (List.filter_sublist.map _)
    have hfoot : (Own.miter m es rest cur).foot w (E n) b := .inr ⟨r, since, seen, last, by rw [hE]; rfl, h4⟩
    have hgo : (execOp a.eval o).run C.P w = ((Instr.next (.pointer (some ⟨r, 0, none⟩)) false o.type).run C.P w).andThen fun v w' => .ok (.value v) w' := by
     simp only [execOp, ho, hxq, Sem.run_bind, Sem.run_pure]
    rcases run_next_at (P := C.P) w o.type r b since last seen es' clock h4 h5 h10 h9.1 with ⟨hz, hr⟩ | ⟨e, he, w1, hw1, hr⟩
    ·have hl0 : es'.toList.filter (fun e => !seen.contains e.born) = [] := by
      have : (leftOf es' seen).toList = [] := by rw [Array.eq_empty_of_size_eq_zero hz]
      simpa [leftOf] using this
     rw [hl0] at p1
     have hl' : l' = [] := p1.eq_nil
     have hrest : rest = [] := List.eq_nil_of_length_eq_zero (by rw [← p2, hl']; rfl)
     obtain ⟨_, hk⟩ := hv0 hrest
     refine wp_value (v := .tuple #[.bool false]) (w' := w) (by rw [hgo, hr]; rfl) ?_
     have hmv := hs.own_stepG (E' := E) (n := n) (d := m) (o' := .map es) hown (w' := w) ⟨rfl, rfl, rfl, Nat.le_refl _, fun _ _ _ => rfl⟩ (fun _ _ => rfl) (.inl ⟨rfl, trivial⟩)
      (fun b' hb => by rw [h2] at hb; simp [Own.foot, blockOf] at hb; subst hb; exact .inl hfoot)
      (fun b' hb => by rw [h2] at hb; simp [blockOf] at hb; subst hb; exact (Array.getElem?_eq_some_iff.1 h5).1)
      ⟨b, es', clock, h2, h5, h6, h7, h8, h13⟩
     have hp := hmv.put o.dst hd (x := .tup [.d (.v (.bool false))]) (.tup #[.bool false] _ rfl fun i c y hc hy => by
      match i with
      | 0 => simp at hc hy; subst hc; subst hy; exact .d (.v _)
      | i + 1 => simp at hc)
     exact hK _ _ _ _ _ hk (hp.weaken (fun t x hx => .inl hx) (fun m p hm => hm))
    ·have hel : e ∈ es'.toList.filter fun e => !seen.contains e.born := by simpa [leftOf] using he
     have hes : e ∈ es'.toList := (List.mem_filter.1 hel).1
     obtain ⟨i, hi⟩ := List.getElem?_of_mem (p1.mem_iff.2 hel)
     have hil : i < rest.length := by rw [← p2]; exact (List.getElem?_eq_some_iff.1 hi).1
     have hpi := List.getElem?_eq_getElem hil
     obtain ⟨_, hk⟩ := hv1 i _ hpi
     obtain ⟨k1, k2⟩ := p3 i e _ hi hpi
     have hh : w1.heap = w.heap := by rcases hw1 with rfl | rfl <;> rfl
     refine wp_value (v := .tuple #[.bool true, e.key, e.val]) (w' := ChangeMaps.setBlock w1 r (.mapIter (some b) since (seen.push e.born) clock)) (by rw [hgo, hr]; rfl) ?_
     have hn' : (l'.map (·.born)).Nodup := ((p1.map _).nodup_iff).2 hnd
     have hsb : (ChangeMaps.setBlock w1 r (.mapIter (some b) since (seen.push e.born) clock)).heap = w.heap.setIfInBounds r (.mapIter (some b) since (seen.push e.born) clock) := by simp [ChangeMaps.setBlock, hh]
     have hmv := hs.own_step (E' := E) (n := n) (d := n) (o' := .miter m es (rest.eraseIdx i) (some rest[i])) hown (w' := ChangeMaps.setBlock w1 r (.mapIter (some b) since (seen.push e.born) clock))
      (by
        rw [hE]
        refine ⟨?_, ?_, ?_, by rw [hsb]; simp, fun k hk hne => ?_⟩
        ·rcases hw1 with rfl | rfl <;> rfl
        ·rcases hw1 with rfl | rfl <;> rfl
        ·rcases hw1 with rfl | rfl <;> rfl
        ·simp only [blockOf] at hne
         rw [hsb, Array.getElem?_setIfInBounds_ne (by intro e; subst e; exact hne rfl)])
      (fun _ _ => rfl) (.inl ⟨rfl, rfl⟩)
      (fun b' hb => by
        rcases hb with hb | ⟨r', s1, s2, s3, hb, hq⟩
        ·exact .inl (.inl hb)
        ·rw [hE] at hb; simp [blockOf] at hb; subst hb
         rw [hsb] at hq; simp [hrlt] at hq
         obtain ⟨rfl, _⟩ := hq
         exact .inl hfoot)
      (fun b' hb => by rw [hE] at hb; simp [blockOf] at hb; subst hb; rw [hsb]; simpa using hrlt)
      ⟨r, b, es', clock, since, seen.push e.born, clock, hE, h2, h3, by rw [hsb]; simp [hrlt], by rw [hsb, Array.getElem?_setIfInBounds_ne h3]; exact h5, h6, h7, h8, ⟨h9.2, h9.2⟩, h10,
       (fun p hp => by cases hp; exact ⟨e, hes, ⟨seen, rfl⟩, rfl, k1, k2⟩),
       ⟨l'.eraseIdx i, by
        rw [← filter_erase hn' hi]
        have hq := p1.filter fun x => !(x.born == e.born)
        rw [List.filter_filter] at hq
        refine hq.trans ?_
        rw [List.filter_congr (q := fun x => !(seen.push e.born).contains x.born)]
        intro y _
        simp only [Array.contains_push]
        cases h : (y.born == e.born) <;> cases h' : seen.contains y.born <;> simp_all, by
        rw [List.length_eraseIdx, List.length_eraseIdx, p2], fun j e' p' he' hp' => by
        rw [List.getElem?_eraseIdx] at he' hp'
        by_cases hj : j < i
        ·rw [if_pos hj] at he' hp'; exact p3 j e' p' he' hp'
        ·rw [if_neg hj] at he' hp'; exact p3 (j + 1) e' p' he' hp'⟩, h12, h13⟩
     have hp := hmv.put o.dst hd (x := .tup [.d (.v (.bool true)), .d (.v rest[i].1), .d rest[i].2]) (.tup #[.bool true, e.key, e.val] _ rfl fun i c y hc hy => by
      match i with
      | 0 => simp at hc hy; subst hc; subst hy; exact .d (.v _)
      | 1 => simp at hc hy; subst hc; subst hy; rw [k1]; exact .d (.v _)
      | 2 => simp at hc hy; subst hc; subst hy; exact .d k2
      | i + 3 => simp at hc)
     refine hK _ _ _ _ _ hk (hp.weaken (fun t x hx => .inl hx) (fun m p hm => ?_))
     simp only [AState.own?, AState.app, List.cons_append, List.nil_append, gt_cons] at hm ⊢
     by_cases hnm : n = m
     ·rw [if_pos hnm] at hm ⊢; exact hm
     ·rw [if_neg hnm] at hm ⊢; rw [if_neg hnm]; exact hm
  ·exact hv.elim
 ·exact hv.elim
theorem ok_entry {x : Operand} (ho : o.op = .entry x) : OpOk C nm o := by
 intro E M S a w K Q k hs hv hK
 simp only [AVal, ho] at hv
 split at hv
 ·rename_i n off hx
  split at hv
  ·rename_i m es rest p hown
   have hxv := hs.ev x
   rw [hx] at hxv
   generalize hxq : a.eval x = xv at hxv
   cases hxv with
   | bp n off r hE =>
    obtain ⟨rfl, _, hk⟩ := hv
    obtain ⟨r', b, es', clock, since, seen, last, h1, h2, h3, h4, h5, h6, h7, h8, h9, h10, h11, _, h12, h13⟩ := hs.own n _ hown
    rw [hE] at h1; cases h1
    obtain ⟨e, he, ⟨s0, rfl⟩, rfl, k1, k2⟩ := h11 p rfl
    have hr := run_entry_at (P := C.P) w r b since s0 es' last e h4 h5 he h8.2
    refine wp_value (v := .tuple #[e.key, e.val]) (w' := w) (by simp only [execOp, ho, hxq, Sem.run_bind, hr, Result.andThen_ok, Sem.run_pure]) (hK _ _ _ _ _ hk (hs.app_val hd rfl ?_))
    refine .tup #[e.key, e.val] _ rfl fun i c y hc hy => ?_
    match i with
    | 0 => simp at hc hy; subst hc; subst hy; rw [k1]; exact .d (.v _)
    | 1 => simp at hc hy; subst hc; subst hy; exact .d k2
    | i + 2 => simp at hc
  ·exact hv.elim
 ·exact hv.elim
theorem ok_next {x : Operand} {is : Bool} (ho : o.op = .next x is) : OpOk C nm o := by
 intro E M S a w K Q k hs hv hK
 cases is with
 | false => exact ok_nextM hd ho E M S a w K Q k hs hv hK
 | true =>
 simp only [AVal, ho] at hv
 split at hv
 ·rename_i n off hx
  split at hv
  ·rename_i s pos hown
   have hxv := hs.ev x
   rw [hx] at hxv
   generalize hxq : a.eval x = xv at hxv
   cases hxv with
   | bp n off b hE =>
    obtain ⟨b', g1, g2, g3⟩ := hs.own n _ hown
    rw [hE] at g1; cases g1
    have hblt : b < w.heap.size := (Array.getElem?_eq_some_iff.1 g2).1
    split at hv
    ·rename_i hlt
     obtain ⟨rfl, _, hk⟩ := hv
     have hlt : pos < s.size := Nat.le_of_ble_eq_true hlt
     have hrun : (execOp a.eval o).run C.P w = .ok (.value (.tuple #[.bool true, .int .i64 pos, .int .i32 (Utf8.decode s pos).1])) { w with heap := w.heap.setIfInBounds b (.stringIter s (pos + (Utf8.decode s pos).2)) } := by
      simp only [execOp, ho, hxq, Instr.next, Sem.run_bind, run_getObj_iter g2, Result.andThen_ok, hlt, if_true, run_setObj_iter _ g2, Sem.run_pure, goInt]
     refine wp_value hrun ?_
     have hmv := hs.own_step (E' := E) (n := n) (d := n) (o' := .iter s (pos + (Utf8.decode s pos).2)) hown (w' := { w with heap := w.heap.setIfInBounds b (.stringIter s (pos + (Utf8.decode s pos).2)) })
      (by rw [hE]; exact ⟨rfl, rfl, rfl, by simp, fun k hk hne => by simp only [blockOf] at hne; rw [Array.getElem?_setIfInBounds_ne (by intro e; subst e; exact hne rfl)]⟩) (fun _ _ => rfl) (.inl ⟨rfl, rfl⟩) (fun b' hb => .inl hb)
      (fun b' hb => by have := hs.block_lt hown hb; simpa using this)
      ⟨b, hE, by simp [hblt], g3⟩
     have hp := hmv.put o.dst hd (x := .tup [.d (.v (.bool true)), .d (.v (.int .i64 pos)), .d (.v (.int .i32 (Utf8.decode s pos).1))]) (.tup #[.bool true, .int .i64 pos, .int .i32 (Utf8.decode s pos).1] _ rfl fun i c y hc hy => by
      match i with
      | 0 => simp at hc hy; subst hc; subst hy; exact .d (.v _)
      | 1 => simp at hc hy; subst hc; subst hy; exact .d (.v _)
      | 2 => simp at hc hy; subst hc; subst hy; exact .d (.v _)
      | i + 3 => simp at hc)
     refine hK _ _ _ _ _ hk (hp.weaken (fun t x hx => .inl hx) (fun m p hm => ?_))
     simp only [AState.own?, AState.app, List.cons_append, List.nil_append, gt_cons] at hm ⊢
     by_cases hnm : n = m
     ·rw [if_pos hnm] at hm ⊢; exact hm
     ·rw [if_neg hnm] at hm ⊢; rw [if_neg hnm]; exact hm
    ·rename_i hlt
     obtain ⟨rfl, _, hk⟩ := hv
     have hlt : ¬ pos < s.size := fun h => by rw [show Nat.blt pos s.size = true from Nat.ble_eq_true_of_le h] at hlt; cases hlt
     have hrun : (execOp a.eval o).run C.P w = .ok (.value (.tuple #[.bool false])) w := by
      simp only [execOp, ho, hxq, Instr.next, Sem.run_bind, run_getObj_iter g2, Result.andThen_ok, hlt, if_false, Sem.run_pure]
     refine wp_value hrun (hK _ _ _ _ _ hk (hs.app_val hd rfl ?_))
     refine .tup #[.bool false] _ rfl fun i c y hc hy => ?_
     match i with
     | 0 => simp at hc hy; subst hc; subst hy; exact .d (.v _)
     | i + 1 => simp at hc
  ·exact hv.elim
 ·exact hv.elim
theorem ok_all : OpOk C nm o := by
 cases ho : o.op with
 | move x => exact ok_move hd (.inl ho)
 | assign x => exact ok_move hd (.inr ho)
 | pick c x y => exact ok_pick hd ho
 | alloc t => exact ok_alloc hd ho
 | box t x => exact ok_box hd ho
 | build t ps => exact ok_build hd ho
 | buildSlice t n ps => exact ok_buildSlice hd ho
 | load t x => exact ok_load hd ho
 | store t x y => exact ok_store hd ho
 | nilCheck x => exact ok_nilCheck hd ho
 | binOp op t x y t' => exact ok_binOp hd ho
 | unOp op t x => exact ok_unOp hd ho
 | convert s t x => exact ok_convert hd ho
 | makeFunc f a b => exact ok_makeFunc hd ho
 | makeInterface t x => exact ok_makeInterface hd ho
 | makeSlice t l c => exact ok_makeSlice hd ho
 | makeMap t r => exact ok_makeMap hd ho
 | entry x => exact ok_entry hd ho
 | lookup t x i c => exact ok_lookup hd ho
 | mapUpdate t x i y => exact ok_mapUpdate hd ho
 | insert t x i y => exact ok_insert hd ho
 | range t x => exact ok_range hd ho
 | next x i => exact ok_next hd ho
 | slice t x lo hi mx => exact ok_slice hd ho
 | fieldAddr s x f => exact ok_fieldAddr hd ho
 | field s x f => exact ok_field hd ho
 | indexAddr t x i => exact ok_indexAddr hd ho
 | index t x i => exact ok_index hd ho
 | extract x i => exact ok_extract hd ho
 | call c =>
  cases hc : c.callee with
  | value f => exact ok_callFn hd ho hc
  | builtin b => exact ok_callBuiltin hd ho hc
  | invoke r m => intro E M S a w K Q k hs hv hK; simp [AVal, ho, hc] at hv
 | _ => intro E M S a w K Q k hs hv hK; simp [AVal, ho] at hv
end
end Go.Awp
end
section
namespace Go.Awp
variable [Inhabited GMem]
def guardB (S : AState) (all : List Oper) (j : Nat) (want : Bool) : Option Bool :=
 match all[j]? with
 | some o => match o.dst with
  | some d => match S.get d with
   | .d (.v (.bool b)) => some b
   | .tup [] => some (!want)
   | _ => none
  | none => none
 | none => none
theorem undefH {E : Env} {M : Mem} : HRep E M undef (.tup []) := .tup _ _ rfl fun i c x hc _ => by simp at hc
def aIf (b : Bool) (x y : Prop) : Prop := (b = true → x) ∧ (b = false → y)
theorem Sim.guard {C : Ctx} {E : Env} {M : Mem} {S : AState} {a : Act} {w : World} (hs : Sim C E M S a w) {ops : Array Oper} {j : Nat} {b want : Bool} (h : guardB S ops.toList j want = some b) :
  (yielded ops a.tmps j == some want) = (b == want) := by
 unfold guardB at h
 split at h
 ·rename_i o ho
  split at h
  ·rename_i d hd
   split at h
   ·rename_i b' hb
    simp at h; subst h
    have hg := hs.get d
    rw [hb] at hg
    have hv := hg.dv
    have ho' : ops[j]? = some o := by simpa using ho
    have hlt : a.tmps[d]? = some (.bool b') := by
     cases hq : a.tmps[d]? with
     | none => simp [hq, undef] at hv
     | some x => simp [hq] at hv; rw [hv]
    simp [yielded, ho', hd, hlt]
   ·rename_i hb
    simp only [Option.some.injEq] at h
    rw [← h]
    have hg := hs.get d
    rw [hb] at hg
    have ho' : ops[j]? = some o := by simpa using ho
    have hne : (∃ b, a.tmps[d]? = some (.bool b)) → False := by
     rintro ⟨b, hq⟩
     simp only [Array.getD_eq_getD_getElem?, hq, Option.getD_some] at hg
     cases hg
    have hy : yielded ops a.tmps j = none := by
     unfold yielded
     split
     ·rename_i b hq
      simp [ho', hd] at hq
      exact (hne ⟨b, hq⟩).elim
     ·rfl
    rw [hy]
    cases want <;> rfl
   ·cases h
  ·cases h
 ·cases h
def Ent (S S' : AState) : Prop := ∀ (C : Ctx) (E : Env) (M : Mem) (a : Act) (w : World), Sim C E M S a w → ∃ E' M', Sim C E' M' S' a w
theorem Ent.refl (S : AState) : Ent S S := fun _ E M _ _ h => ⟨E, M, h⟩
theorem Ent.trans {S S' S'' : AState} (h : Ent S S') (k : Ent S' S'') : Ent S S'' := fun C E M a w hs =>
 let ⟨E', M', h'⟩ := h C E M a w hs
 k C E' M' a w h'
def AWp (C : Ctx) (c : Code) (S : AState) (Q : Exit → AState → Prop) : Prop :=
 ∀ (E : Env) (M : Mem) (a : Act) (w : World), Sim C E M S a w → c.wp C.P (fun e a' w' => ∃ S' E' M', Q e S' ∧ Sim C E' M' S' a' w') a w
def eThen (n : AState → Prop) (Q : Exit → AState → Prop) : Exit → AState → Prop
 | .normal, S => n S
 | e, S => Q e S
def eBlock (id : Nat) (Q : Exit → AState → Prop) : Exit → AState → Prop
 | .exit id', S => if id' = id then Q .normal S else Q (.exit id') S
 | e, S => Q e S
section
variable {C : Ctx} {Q : Exit → AState → Prop} {S : AState}
theorem AWp.mono {c : Code} {Q' : Exit → AState → Prop} (h : AWp C c S Q) (hq : ∀ e S, Q e S → Q' e S) : AWp C c S Q' :=
 fun E M a w hs => wp_mono (h E M a w hs) fun e _ _ ⟨S', E', M', q, s⟩ => ⟨S', E', M', hq e S' q, s⟩
theorem AWp.ent {c : Code} {S' : AState} (he : Ent S S') (h : AWp C c S' Q) : AWp C c S Q := fun E M a w hs =>
 let ⟨E', M', hs'⟩ := he C E M a w hs
 h E' M' a w hs'
theorem AWp.seq {x y : Code} (h : AWp C x S (eThen (fun S' => AWp C y S' Q) Q)) : AWp C (.seq x y) S Q := fun E M a w hs =>
 wp_seq (wp_mono (h E M a w hs) fun e a' w' ⟨S', E', M', q, s⟩ => by
  cases e with
  | normal => exact q E' M' a' w' s
  | exit _ => exact ⟨S', E', M', q, s⟩
  | goto _ => exact ⟨S', E', M', q, s⟩
  | ret => exact ⟨S', E', M', q, s⟩
  | panic _ => exact ⟨S', E', M', q, s⟩
  | outgrown => exact ⟨S', E', M', q, s⟩)
theorem AWp.skip (h : Q .normal S) : AWp C .skip S Q := fun E M _ _ hs => wp_skip ⟨S, E, M, h, hs⟩
theorem AWp.ret (h : Q .ret S) : AWp C .ret S Q := fun E M _ _ hs => wp_ret ⟨S, E, M, h, hs⟩
theorem AWp.exit {id : Nat} (h : Q (.exit id) S) : AWp C (.exit id) S Q := fun E M _ _ hs => wp_exit ⟨S, E, M, h, hs⟩
theorem AWp.label {l : Nat} (h : Q .normal S) : AWp C (.label l) S Q := fun E M _ _ hs => wp_label ⟨S, E, M, h, hs⟩
theorem AWp.goto {l : Nat} (h : Q (.goto l) S) : AWp C (.goto l) S Q := fun E M _ _ hs => wp_goto ⟨S, E, M, h, hs⟩
theorem AWp.block {id : Nat} {c : Code} (h : AWp C c S (eBlock id Q)) : AWp C (.block id c) S Q := fun E M a w hs =>
 wp_block (wp_mono (h E M a w hs) fun e a' w' ⟨S', E', M', q, s⟩ => by
  cases e with
  | exit id' =>
   simp only [eBlock] at q
   simp only [Exit.inBlock]
   by_cases hid : id' = id
   ·rw [if_pos hid] at q ⊢; exact ⟨S', E', M', q, s⟩
   ·rw [if_neg hid] at q ⊢; exact ⟨S', E', M', q, s⟩
  | normal => exact ⟨S', E', M', q, s⟩
  | goto _ => exact ⟨S', E', M', q, s⟩
  | ret => exact ⟨S', E', M', q, s⟩
  | panic _ => exact ⟨S', E', M', q, s⟩
  | outgrown => exact ⟨S', E', M', q, s⟩)
theorem AWp.cond {c : Operand} {x y : Code} {b : Bool} (hc : ev S c = .d (.v (.bool b))) (ht : b = true → AWp C x S Q) (hf : b = false → AWp C y S Q) : AWp C (.cond c x y) S Q := fun E M a w hs => by
 have h := hs.ev c
 rw [hc] at h
 cases b with
 | true => exact wp_cond_true h.dv (ht rfl E M a w hs)
 | false => exact wp_cond_false h.dv (hf rfl E M a w hs)
end
def resOne (P : Program) (S : AState) : ResultVar → Option H
 | .tmp t => some (S.get t)
 | .cell a t => match S.get a with
  | .bp n off => match S.own? n, tyLoad P t with
   | some (.box _ cells), some (ag, sz) => loadC ag sz (cells.drop off)
   | _, _ => none
  | _ => none
def resList (P : Program) (S : AState) : List ResultVar → Option (List H)
 | [] => some []
 | x :: r => match resOne P S x, resList P S r with
  | some h, some l => some (h :: l)
  | _, _ => none
def resH (P : Program) (S : AState) (rs : List ResultVar) : Option H :=
 match resList P S rs with
 | some [h] => some h
 | some l => some (.tup l)
 | none => none
def resSem (tmps : Array Value) : ResultVar → Sem Value
 | .tmp t => Pure.pure (tmps.getD t undef)
 | .cell c t => do loadVar t (← asAddr (tmps.getD c undef))
theorem results_eq (fn : Func) (tmps : Array Value) : results fn tmps = (do
  let vs ← fn.results.mapM (resSem tmps)
  Pure.pure (if h : vs.size = 1 then vs[0] else .tuple vs)) := by
 have : (fun (x : ResultVar) => match x with
  | .tmp t => (Pure.pure (tmps.getD t undef) : Sem Value)
  | .cell a t => do loadVar t (← asAddr (tmps.getD a undef))) = resSem tmps := by
  funext x; cases x <;> rfl
 rw [← this]; rfl
theorem run_resList {C : Ctx} {E : Env} {M : Mem} {S : AState} {a : Act} {w : World} (hs : Sim C E M S a w) : ∀ (rs : List ResultVar) (l : List H), resList C.P S rs = some l →
  ∃ vs : List Value, (rs.mapM (resSem a.tmps)).run C.P w = .ok vs w ∧ HReps E M vs.toArray l
 | [], l, h => by
  simp [resList] at h; subst h
  exact ⟨[], by simp, rfl, by simp⟩
 | x :: r, l, h => by
  simp only [resList] at h
  split at h
  ·rename_i y l' hy hl'
   simp at h; subst h
   obtain ⟨vs, h1, h2, h3⟩ := run_resList hs r l' hl'
   have one : ∃ v, (resSem a.tmps x).run C.P w = .ok v w ∧ HRep E M v y := by
    cases x with
    | tmp t =>
     simp [resOne] at hy; subst hy
     exact ⟨_, by simp [resSem], hs.get t⟩
    | cell c t =>
     simp only [resOne] at hy
     split at hy
     ·rename_i n off he
      split at hy
      ·rename_i cells ag sz hc ht
       have hg := hs.get c
       rw [he] at hg
       generalize hq : a.tmps.getD c undef = q at hg
       cases hg with
       | bp n off b hE =>
        obtain ⟨cs, ty, g1, g2, g3, g4, _⟩ := (hs.own n _ hc).box_cell hE
        obtain ⟨v, hr, hrep⟩ := load_rows (cs := cs.toList.drop off) (w := w) (b := b) (off := off) ht (by simp [g2]) (fun j v hv => g4 _ v (by simpa using hv)) (fun i c y hc hy => g3 (off + i) c y (by simpa using hc) (by simpa using hy)) hy
        exact ⟨v, by simp only [resSem, hq, asAddr, Sem.run_bind, Sem.run_pure, Result.andThen_ok]; exact hr, hrep⟩
      ·cases hy
     ·cases hy
   obtain ⟨v, hv1, hv2⟩ := one
   refine ⟨v :: vs, by rw [List.mapM_cons, Sem.run_bind, hv1, Result.andThen_ok, Sem.run_bind, h1, Result.andThen_ok, Sem.run_pure], by simpa using h2, fun i c z hc hz => ?_⟩
   cases i with
   | zero => simp at hc hz; subst hc; subst hz; exact hv2
   | succ i => exact h3 i c z (by simpa using hc) (by simpa using hz)
  ·cases h
theorem run_resH {C : Ctx} {E : Env} {M : Mem} {S : AState} {a : Act} {w : World} (hs : Sim C E M S a w) {fn : Func} {r : H} (h : resH C.P S fn.results.toList = some r) :
  ∃ v, (results fn a.tmps).run C.P w = .ok v w ∧ HRep E M v r := by
 unfold resH at h
 have run : ∀ l, resList C.P S fn.results.toList = some l → ∃ vs : List Value, HReps E M vs.toArray l ∧ (results fn a.tmps).run C.P w = .ok (if h : vs.toArray.size = 1 then vs.toArray[0] else .tuple vs.toArray) w := by
  intro l hl
  obtain ⟨vs, h1, h2⟩ := run_resList hs _ l hl
  refine ⟨vs, h2, ?_⟩
  rw [results_eq, Array.mapM_eq_mapM_toList, Sem.run_bind, Sem.run_map, h1]
  rfl
 split at h
 ·rename_i y hl
  simp at h; subst h
  obtain ⟨vs, h2, h3⟩ := run _ hl
  have hsz : vs.toArray.size = 1 := by simpa using h2.1
  rw [dif_pos hsz] at h3
  exact ⟨_, h3, h2.2 0 _ y (Array.getElem?_eq_getElem (by omega)) rfl⟩
 ·rename_i l hne hl
  simp at h; subst h
  obtain ⟨vs, h2, h3⟩ := run _ hl
  have hsz : ¬ vs.toArray.size = 1 := by
   intro hs1
   rw [h2.1] at hs1
   obtain ⟨x, hx⟩ := List.length_eq_one_iff.1 hs1
   subst hx
   exact hne x rfl
  rw [dif_neg hsz] at h3
  exact ⟨_, h3, .tup _ _ h2.1 h2.2⟩
 ·cases h
def startT : Nat → List H → List (Nat × H)
 | _, [] => []
 | i, x :: r => (i, x) :: startT (i + 1) r
theorem gt_startT : ∀ (l : List H) (i t : Nat) (x : H), gt (startT i l) t = some x → i ≤ t ∧ l[t - i]? = some x
 | [], i, t, x, h => by simp [startT, gt] at h
 | y :: r, i, t, x, h => by
  simp only [startT, gt_cons] at h
  by_cases hi : i = t
  ·subst hi; simp at h; subst h; simp
  ·rw [if_neg hi] at h
   obtain ⟨h1, h2⟩ := gt_startT r (i + 1) t x h
   refine ⟨by omega, ?_⟩
   have : t - i = (t - (i + 1)) + 1 := by omega
   rw [this]; simpa using h2
def startO (own : List (Nat × Own)) : List (Nat × Option Own) := own.map fun p => (p.1, some p.2)
theorem gt_startO : ∀ (own : List (Nat × Own)) (n : Nat), (gt (startO own) n).getD none = gt own n
 | [], n => rfl
 | (k, o) :: r, n => by
  have ih := gt_startO r n
  simp only [startO, List.map_cons, gt_cons] at ih ⊢
  by_cases hk : k = n
  ·simp [hk]
  ·rw [if_neg hk, if_neg hk]; exact ih
end Go.Awp
end
section
namespace Go.Awp
variable [Inhabited GMem]
theorem flat_get {α : Type} {sz : Nat} : ∀ {rows : List (List α)}, (∀ r ∈ rows, r.length = sz) → ∀ {i j : Nat} {r : List α}, rows[i]? = some r → j < sz → rows.flatten[i * sz + j]? = r[j]?
 | [], _, i, j, r, h, _ => by simp at h
 | a :: s, hl, i, j, r, h, hj => by
  have ha := hl a List.mem_cons_self
  cases i with
  | zero => simp at h; subst h; rw [List.flatten_cons, Nat.zero_mul, Nat.zero_add, List.getElem?_append_left (by omega)]
  | succ i =>
   rw [List.flatten_cons, List.getElem?_append_right (by rw [ha, Nat.succ_mul]; omega), ha]
   have : (i + 1) * sz + j - sz = i * sz + j := by rw [Nat.succ_mul]; omega
   rw [this]
   exact flat_get (fun r hr => hl r (List.mem_cons_of_mem _ hr)) (by simpa using h) hj
theorem flat_set {α : Type} {sz : Nat} : ∀ {rows : List (List α)}, (∀ r ∈ rows, r.length = sz) → ∀ {i j : Nat} {r : List α} {x : α}, rows[i]? = some r → j < sz → (rows.set i (r.set j x)).flatten = rows.flatten.set (i * sz + j) x
 | [], _, i, j, r, x, h, _ => by simp at h
 | a :: s, hl, i, j, r, x, h, hj => by
  have ha := hl a List.mem_cons_self
  cases i with
  | zero => simp at h; subst h; rw [List.set_cons_zero, List.flatten_cons, List.flatten_cons, Nat.zero_mul, Nat.zero_add, List.set_append_left _ _ (by omega)]
  | succ i =>
   rw [List.set_cons_succ, List.flatten_cons, List.flatten_cons, List.set_append_right _ _ (by rw [ha, Nat.succ_mul]; omega), ha]
   have : (i + 1) * sz + j - sz = i * sz + j := by rw [Nat.succ_mul]; omega
   rw [this, flat_set (fun r hr => hl r (List.mem_cons_of_mem _ hr)) (by simpa using h) hj]
theorem flat_len {α : Type} {sz : Nat} : ∀ {rows : List (List α)}, (∀ r ∈ rows, r.length = sz) → rows.flatten.length = rows.length * sz
 | [], _ => by simp
 | a :: s, h => by
  rw [List.flatten_cons, List.length_append, flat_len fun r hr => h r (List.mem_cons_of_mem _ hr), h a List.mem_cons_self, List.length_cons, Nat.succ_mul]; omega
theorem DDReps.app {M : Mem} {w : World} {vs vs' : List Value} {ds ds' : List DD} {B B' : List Nat} (h : DDReps M w vs ds B) (h' : DDReps M w vs' ds' B') : DDReps M w (vs ++ vs') (ds ++ ds') (B ++ B') := by
 induction h with
 | nil => exact h'
 | d h _ ih => exact .d h ih
 | junk _ ih => exact .junk ih
 | mt _ ih => exact .mt ih
 | sl hn ho hz h r _ ih => rw [List.cons_append, List.cons_append, List.cons_append, List.append_assoc]; exact .sl hn ho hz h ih
theorem perm_mid {g : Nat} {B0 B B1 B2 : List Nat} (h : B.Perm (B1 ++ B2)) : (g :: (B0 ++ B)).Perm (B1 ++ g :: (B0 ++ B2)) := by
 rw [List.perm_iff_count] at h ⊢
 intro a
 have := h a
 simp only [List.count_cons, List.count_append] at this ⊢
 omega
theorem DDReps.take {M : Mem} {w : World} {vs : List Value} {ds : List DD} {B : List Nat} (h : DDReps M w vs ds B) : ∀ {q e z : Nat} {rows : List (List DD)}, ds[q]? = some (.sl e z rows) →
  ∃ v B1 B2, vs[q]? = some v ∧ DDReps M w [v] [.sl e z rows] B1 ∧ DDReps M w vs (ds.set q .junk) B2 ∧ B.Perm (B1 ++ B2) := by
 induction h with
 | nil => intro q e z rows h; simp at h
 | d h r ih =>
  intro q e z rows hq
  cases q with
  | zero => simp at hq
  | succ q =>
   obtain ⟨v, B1, B2, h1, h2, h3, h4⟩ := ih (by simpa using hq)
   exact ⟨v, B1, B2, by simpa using h1, h2, .d h h3, h4⟩
 | junk r ih =>
  intro q e z rows hq
  cases q with
  | zero => simp at hq
  | succ q =>
   obtain ⟨v, B1, B2, h1, h2, h3, h4⟩ := ih (by simpa using hq)
   exact ⟨v, B1, B2, by simpa using h1, h2, .junk h3, h4⟩
 | @mt e0 sz0 vs ds B r ih =>
  intro q e z rows hq
  cases q with
  | zero =>
   simp at hq
   obtain ⟨rfl, rfl, rfl⟩ := hq
   exact ⟨_, [], B, by simp, .mt .nil, .junk r, .refl _⟩
  | succ q =>
   obtain ⟨v, B1, B2, h1, h2, h3, h4⟩ := ih (by simpa using hq)
   exact ⟨v, B1, B2, by simpa using h1, h2, .mt h3, h4⟩
 | @sl g n cap e0 sz0 rows0 xs vs ds B0 B hn ho hz h r ih1 ih =>
  intro q e z rows hq
  cases q with
  | zero =>
   simp at hq
   obtain ⟨rfl, rfl, rfl⟩ := hq
   exact ⟨_, _, B, by simp, .sl hn ho hz h .nil, .junk r, by simp⟩
  | succ q =>
   obtain ⟨v, B1, B2, h1, h2, h3, h4⟩ := ih (by simpa using hq)
   exact ⟨v, B1, _, by simpa using h1, h2, .sl hn ho hz h h3, perm_mid h4⟩
theorem DDReps.give {M : Mem} {w : World} {vs : List Value} {ds : List DD} {B : List Nat} (h : DDReps M w vs ds B) : ∀ {q e z : Nat} {v : Value} {rows : List (List DD)} {B1 : List Nat}, ds[q]? = some .junk → vs[q]? = some v → DDReps M w [v] [.sl e z rows] B1 →
  ∃ B2, DDReps M w vs (ds.set q (.sl e z rows)) B2 ∧ B2.Perm (B1 ++ B) := by
 induction h with
 | nil => intro q e z v rows B1 h; simp at h
 | d h r ih =>
  intro q e z v rows B1 hq hv h1
  cases q with
  | zero => simp at hq
  | succ q =>
   obtain ⟨B2, h2, h3⟩ := ih (by simpa using hq) (by simpa using hv) h1
   exact ⟨B2, .d h h2, h3⟩
 | @junk v0 vs ds B r ih =>
  intro q e z v rows B1 hq hv h1
  cases q with
  | zero =>
   simp at hv; subst hv
   have := h1.app r
   exact ⟨_, by simpa using this, .refl _⟩
  | succ q =>
   obtain ⟨B2, h2, h3⟩ := ih (by simpa using hq) (by simpa using hv) h1
   exact ⟨B2, .junk h2, h3⟩
 | mt r ih =>
  intro q e z v rows B1 hq hv h1
  cases q with
  | zero => simp at hq
  | succ q =>
   obtain ⟨B2, h2, h3⟩ := ih (by simpa using hq) (by simpa using hv) h1
   exact ⟨B2, .mt h2, h3⟩
 | sl hn ho hz h r _ ih =>
  intro q e z v rows B1 hq hv h1
  cases q with
  | zero => simp at hq
  | succ q =>
   obtain ⟨B2, h2, h3⟩ := ih (by simpa using hq) (by simpa using hv) h1
   refine ⟨_, .sl hn ho hz h h2, ?_⟩
   rw [List.perm_iff_count] at h3 ⊢
   intro a
   have := h3 a
   simp only [List.count_cons, List.count_append] at this ⊢
   omega
theorem OwnOk.dview {E : Env} {M : Mem} {w : World} {m e sz : Nat} {rows : List (List DD)} (h : OwnOk E M w m (.dvec e sz rows)) :
  (E m = .slice none 0 0 ∧ rows = [] ∧ ∀ b, ¬ (Own.dvec e sz rows).foot w (E m) b) ∨ ∃ g cap xs B, E m = .slice (some ⟨g, 0, none⟩) rows.length cap ∧ w.ownsRow 0 e sz (.slice (some ⟨g, 0, none⟩) rows.length cap) rows.length xs ∧
    (∀ r ∈ rows, r.length = sz) ∧ DDReps M w xs rows.flatten B ∧ (g :: B).Nodup ∧ (∀ b ∈ g :: B, ∀ o, M b o = none) ∧ ∀ b, (Own.dvec e sz rows).foot w (E m) b ↔ b ∈ g :: B := by
 obtain ⟨B, h1, h2, h3⟩ := h
 have hf : ∀ b, (Own.dvec e sz rows).foot w (E m) b ↔ b ∈ B := fun b => ⟨fun ⟨M', B', k1, k2⟩ => by rw [h1.det k1]; exact k2, fun hb => ⟨M, B, h1, hb⟩⟩
 generalize hq : E m = v at *
 cases h1 with
 | mt r => cases r; exact .inl ⟨rfl, rfl, fun b hb => by have := (hf b).1 hb; cases this⟩
 | @sl g n cap e0 sz0 rows0 xs vs ds B0 B hn ho hz h r =>
  cases r
  subst hn
  rw [List.append_nil] at h2 h3 hf
  exact .inr ⟨g, cap, xs, B0, rfl, ho, hz, h, h2, h3, hf⟩
theorem OwnOk.dmk {E : Env} {M : Mem} {w : World} {m e sz g cap : Nat} {xs : List Value} {rows : List (List DD)} {B : List Nat} (hE : E m = .slice (some ⟨g, 0, none⟩) rows.length cap) (ho : w.ownsRow 0 e sz (.slice (some ⟨g, 0, none⟩) rows.length cap) rows.length xs)
  (hz : ∀ r ∈ rows, r.length = sz) (h : DDReps M w xs rows.flatten B) (hn : (g :: B).Nodup) (hM : ∀ b ∈ g :: B, ∀ o, M b o = none) :
  OwnOk E M w m (.dvec e sz rows) ∧ ∀ b, (Own.dvec e sz rows).foot w (E m) b ↔ b ∈ g :: B := by
 have h1 : DDReps M w [E m] [.sl e sz rows] (g :: (B ++ [])) := by rw [hE]; exact .sl rfl ho hz h .nil
 rw [List.append_nil] at h1
 exact ⟨⟨_, h1, hn, hM⟩, fun b => ⟨fun ⟨M', B', k1, k2⟩ => by rw [h1.det k1]; exact k2, fun hb => ⟨M, _, h1, hb⟩⟩⟩
theorem OwnOk.dmt {E : Env} {M : Mem} {w : World} {m e sz : Nat} (hE : E m = .slice none 0 0) : OwnOk E M w m (.dvec e sz []) ∧ ∀ b, ¬ (Own.dvec e sz []).foot w (E m) b := by
 have h1 : DDReps M w [E m] [.sl e sz []] [] := by rw [hE]; exact .mt .nil
 exact ⟨⟨_, h1, .nil, fun b hb => by cases hb⟩, fun b ⟨M', B', k1, k2⟩ => by rw [← h1.det k1] at k2; cases k2⟩
section
variable {C : Ctx} {E : Env} {M : Mem} {S : AState} {a : Act} {w : World}
theorem Sim.regroup (h : Sim C E M S a w) {E' : Env} {S' : AState} (ht : ∀ t x, gt S'.tmps t = some x → ∃ y, gt S.tmps t = some y ∧ ∀ v, HRep E M v y → HRep E' M v x)
  (ho : ∀ n o, S'.own? n = some o → OwnOk E' M w n o) (ha : ∀ n m o o' b, n ≠ m → S'.own? n = some o → S'.own? m = some o' → o.foot w (E' n) b → ¬ o'.foot w (E' m) b)
  (hh : ∀ n o b, S'.own? n = some o → o.foot w (E' n) b → ∃ n0 o0, S.own? n0 = some o0 ∧ o0.foot w (E n0) b) (he : ∀ n, given ≤ n → E' n = E n) : Sim C E' M S' a w :=
 { size := h.size, defers := h.defers, fixed := h.fixed, tmps := fun t x hx => by
    obtain ⟨y, hy, hv⟩ := ht t x hx
    obtain ⟨v, h1, h2⟩ := h.tmps t y hy
    exact ⟨v, h1, hv v h2⟩
   mem := h.mem, own := ho, apart := ha, home := fun n o b hn hb => by
    obtain ⟨n0, o0, h1, h2⟩ := hh n o b hn hb
    exact h.home n0 o0 b h1 h2
   m0 := h.m0, mnew := h.mnew, frame := h.frame, grows := h.grows, os := h.os, tape := h.tape, output := h.output, env := fun n hn => by rw [he n hn]; exact h.env n hn }
def valAt (w : World) (v : Value) (k : Nat) (x : Value) : Prop := ∀ g l c, v = .slice (some ⟨g, 0, none⟩) l c → w.cell? ⟨g, k, none⟩ = some x
theorem Sim.take1 (h : Sim C E M S a w) {m n i j e sz e' z : Nat} {rows rows' : List (List DD)} {r : List DD} (hm : S.own? m = some (.dvec e sz rows)) (hr : rows[i]? = some r) (hj : r[j]? = some (.sl e' z rows')) (hf : S.fresh n = true) (hg : n < given) :
  ∃ v, valAt w (E m) (i * sz + j) v ∧ Sim C (fun k => if k = n then v else E k) M { S with own := (n, some (.dvec e' z rows')) :: (m, some (.dvec e sz (rows.set i (r.set j .junk)))) :: S.own } a w := by
 have hnm : n ≠ m := fun e => by subst e; rw [AState.fresh_own hf] at hm; cases hm
 rcases (h.own m _ hm).dview with ⟨_, rfl, _⟩ | ⟨g, cap, xs, B, hE, ho, hz, hD, hnd, hM, hft⟩
 ·simp at hr
 have hrl := hz r (List.mem_of_getElem? hr)
 have hjl : j < sz := by have := (List.getElem?_eq_some_iff.1 hj).1; omega
 have hil : i < rows.length := (List.getElem?_eq_some_iff.1 hr).1
 have hkl : i * sz + j < rows.length * sz := by
  have : (i + 1) * sz ≤ rows.length * sz := Nat.mul_le_mul_right _ hil
  rw [Nat.succ_mul] at this; omega
 obtain ⟨v, B1, B2, h1, h2, h3, h4⟩ := hD.take (q := i * sz + j) (by rw [flat_get hz hr hjl]; exact hj)
 have hcell : w.cell? ⟨g, i * sz + j, none⟩ = some v := by rw [ho.cellAt _ hkl]; exact h1
 refine ⟨v, fun g' l c hv => by rw [hE] at hv; cases hv; exact hcell, ?_⟩
 have hset : (rows.set i (r.set j .junk)).flatten = rows.flatten.set (i * sz + j) .junk := flat_set hz hr hjl
 have hlen : (rows.set i (r.set j DD.junk)).length = rows.length := List.length_set
 have hnd' : (g :: (B1 ++ B2)).Nodup := ((h4.cons g).nodup_iff).1 hnd
 have hmem : ∀ b, b ∈ B1 ++ B2 ↔ b ∈ B := fun b => (h4.mem_iff).symm
 have hEm : (if m = n then v else E m) = E m := if_neg (Ne.symm hnm)
 obtain ⟨okm, ftm⟩ := OwnOk.dmk (E := fun k => if k = n then v else E k) (M := M) (w := w) (m := m) (e := e) (sz := sz) (g := g) (cap := cap) (xs := xs) (rows := rows.set i (r.set j .junk)) (B := B2) (by rw [hEm, hlen]; exact hE) (by rw [hlen]; exact ho)
  (fun r' hr' => by
    rcases List.mem_or_eq_of_mem_set hr' with q | q
    ·exact hz r' q
    ·subst q; rw [List.length_set]; exact hrl) (by rw [hset]; exact h3)
  (by
    refine hnd'.sublist ?_
    exact (List.sublist_append_right B1 B2).cons_cons g) (fun b hb o => hM b (by
    rcases List.mem_cons.1 hb with q | q
    ·exact q ▸ List.mem_cons_self
    ·exact List.mem_cons_of_mem _ ((hmem b).1 (List.mem_append.2 (.inr q)))) o)
 have okn : OwnOk (fun k => if k = n then v else E k) M w n (.dvec e' z rows') :=
  ⟨B1, by simpa using h2, (hnd'.sublist (List.sublist_cons_self _ _)).sublist (List.sublist_append_left _ _), fun b hb o => hM b (List.mem_cons_of_mem _ ((hmem b).1 (List.mem_append.2 (.inl hb)))) o⟩
 have ftn : ∀ b, (Own.dvec e' z rows').foot w v b ↔ b ∈ B1 := fun b => ⟨fun ⟨M', B', k1, k2⟩ => by rw [h2.det k1]; exact k2, fun hb => ⟨M, B1, h2, hb⟩⟩
 have hkind : ∀ k o, ({ S with own := (n, some (.dvec e' z rows')) :: (m, some (.dvec e sz (rows.set i (r.set j .junk)))) :: S.own } : AState).own? k = some o →
   k = n ∧ o = .dvec e' z rows' ∨ k = m ∧ o = .dvec e sz (rows.set i (r.set j .junk)) ∨ k ≠ n ∧ k ≠ m ∧ S.own? k = some o := by
  intro k o hk
  simp only [AState.own?, gt_cons] at hk
  by_cases h1 : n = k
  ·rw [if_pos h1] at hk; simp at hk; exact .inl ⟨h1.symm, hk.symm⟩
  ·rw [if_neg h1] at hk
   by_cases h2 : m = k
   ·rw [if_pos h2] at hk; simp at hk; exact .inr (.inl ⟨h2.symm, hk.symm⟩)
   ·rw [if_neg h2] at hk; exact .inr (.inr ⟨Ne.symm h1, Ne.symm h2, hk⟩)
 have hfm : ∀ b, b ∈ g :: B2 → (Own.dvec e sz rows).foot w (E m) b := fun b hb => (hft b).2 (by
  rcases List.mem_cons.1 hb with q | q
  ·exact q ▸ List.mem_cons_self
  ·exact List.mem_cons_of_mem _ ((hmem b).1 (List.mem_append.2 (.inr q))))
 have hfn : ∀ b, b ∈ B1 → (Own.dvec e sz rows).foot w (E m) b := fun b hb => (hft b).2 (List.mem_cons_of_mem _ ((hmem b).1 (List.mem_append.2 (.inl hb))))
 have hdis : ∀ b, b ∈ B1 → ¬ b ∈ g :: B2 := by
  intro b hb hb2
  rw [List.nodup_cons, List.nodup_append] at hnd'
  rcases List.mem_cons.1 hb2 with q | q
  ·subst q; exact hnd'.1 (List.mem_append.2 (.inl hb))
  ·exact hnd'.2.2.2 b hb b q rfl
 refine h.regroup (fun t x hx => ⟨x, hx, fun u hu => ?_⟩) (fun k o hk => ?_) (fun k k' o o' b hkk hk hk' hb hb' => ?_) (fun k o b hk hb => ?_) (fun k hk => ?_)
 ·exact hu.set (AState.fresh_tmp hf hx)
 ·rcases hkind k o hk with ⟨rfl, rfl⟩ | ⟨rfl, rfl⟩ | ⟨k1, k2, k3⟩
  ·exact okn
  ·exact okm
  ·exact (h.own k o k3).keep (by simp [k1]) (fun _ _ => rfl) (fun k' hk' => by
    have : k' ≠ n := fun e => by subst e; rw [AState.fresh_cell hf k3] at hk'; cases hk'
    simp [this]) (Mem.le_refl M) fun b hb => ((h.own k o k3).block hb).2
 ·have side : ∀ k o b, k ≠ n → k ≠ m → S.own? k = some o → o.foot w ((fun k => if k = n then v else E k) k) b → ¬ b ∈ B1 ∧ ¬ b ∈ g :: B2 := by
   intro k o b k1 k2 k3 hb
   simp only [if_neg k1] at hb
   exact ⟨fun q => h.apart k m o _ b k2 k3 hm hb (hfn b q), fun q => h.apart k m o _ b k2 k3 hm hb (hfm b q)⟩
  rcases hkind k o hk with ⟨rfl, rfl⟩ | ⟨rfl, rfl⟩ | ⟨k1, k2, k3⟩
  ·simp only [if_true] at hb
   have hb := (ftn b).1 hb
   rcases hkind k' o' hk' with ⟨rfl, rfl⟩ | ⟨rfl, rfl⟩ | ⟨q1, q2, q3⟩
   ·exact hkk rfl
   ·exact hdis b hb ((ftm b).1 hb')
   ·exact (side k' o' b q1 q2 q3 hb').1 hb
  ·have hb9 := (ftm b).1 hb
   rcases hkind k' o' hk' with ⟨rfl, rfl⟩ | ⟨rfl, rfl⟩ | ⟨q1, q2, q3⟩
   ·simp only [if_true] at hb'
    exact hdis b ((ftn b).1 hb') hb9
   ·exact hkk rfl
   ·exact (side k' o' b q1 q2 q3 hb').2 hb9
  ·have hs := side k o b k1 k2 k3 hb
   rcases hkind k' o' hk' with ⟨rfl, rfl⟩ | ⟨rfl, rfl⟩ | ⟨q1, q2, q3⟩
   ·simp only [if_true] at hb'
    exact hs.1 ((ftn b).1 hb')
   ·exact hs.2 ((ftm b).1 hb')
   ·simp only [if_neg k1] at hb
    simp only [if_neg q1] at hb'
    exact h.apart k k' o o' b hkk k3 q3 hb hb'
 ·rcases hkind k o hk with ⟨rfl, rfl⟩ | ⟨rfl, rfl⟩ | ⟨k1, k2, k3⟩
  ·simp only [if_true] at hb
   exact ⟨m, _, hm, hfn b ((ftn b).1 hb)⟩
  ·exact ⟨_, _, hm, hfm b ((ftm b).1 hb)⟩
  ·simp only [if_neg k1] at hb
   exact ⟨k, o, k3, hb⟩
 ·have : k ≠ n := by omega
  simp [this]
theorem Sim.give1 (h : Sim C E M S a w) {m n i j e sz e' z : Nat} {rows rows' : List (List DD)} {r : List DD} (hm : S.own? m = some (.dvec e sz rows)) (hn : S.own? n = some (.dvec e' z rows')) (hne : n ≠ m) (hr : rows[i]? = some r) (hj : r[j]? = some .junk)
  (hv : valAt w (E m) (i * sz + j) (E n)) : Sim C E M { S with own := (n, none) :: (m, some (.dvec e sz (rows.set i (r.set j (.sl e' z rows'))))) :: S.own } a w := by
 rcases (h.own m _ hm).dview with ⟨_, rfl, _⟩ | ⟨g, cap, xs, B, hE, ho, hz, hD, hnd, hM, hft⟩
 ·simp at hr
 have hrl := hz r (List.mem_of_getElem? hr)
 have hjl : j < sz := by have := (List.getElem?_eq_some_iff.1 hj).1; omega
 have hil : i < rows.length := (List.getElem?_eq_some_iff.1 hr).1
 have hkl : i * sz + j < rows.length * sz := by
  have : (i + 1) * sz ≤ rows.length * sz := Nat.mul_le_mul_right _ hil
  rw [Nat.succ_mul] at this; omega
 have hxk : xs[i * sz + j]? = some (E n) := by rw [← ho.cellAt _ hkl]; exact hv g _ _ hE
 obtain ⟨B1, n1, n2, n3⟩ := h.own n _ hn
 have ftn : ∀ b, (Own.dvec e' z rows').foot w (E n) b ↔ b ∈ B1 := fun b => ⟨fun ⟨M', B', k1, k2⟩ => by rw [n1.det k1]; exact k2, fun hb => ⟨M, B1, n1, hb⟩⟩
 obtain ⟨B2, h3, h4⟩ := hD.give (q := i * sz + j) (by rw [flat_get hz hr hjl]; exact hj) hxk n1
 have hset : (rows.set i (r.set j (.sl e' z rows'))).flatten = rows.flatten.set (i * sz + j) (.sl e' z rows') := flat_set hz hr hjl
 have hlen : (rows.set i (r.set j (DD.sl e' z rows'))).length = rows.length := List.length_set
 have hmem : ∀ b, b ∈ g :: B2 ↔ b ∈ B1 ∨ b ∈ g :: B := fun b => by
  rw [List.mem_cons, h4.mem_iff, List.mem_append, List.mem_cons]
  constructor
  ·rintro (q | q | q)
   ·exact .inr (.inl q)
   ·exact .inl q
   ·exact .inr (.inr q)
  ·rintro (q | q | q)
   ·exact .inr (.inl q)
   ·exact .inl q
   ·exact .inr (.inr q)
 have hdis : ∀ b, b ∈ B1 → ¬ b ∈ g :: B := fun b hb hb2 => h.apart n m _ _ b hne hn hm ((ftn b).2 hb) ((hft b).2 hb2)
 have hnd' : (g :: B2).Nodup := by
  rw [(h4.cons g).nodup_iff, List.nodup_cons]
  rw [List.nodup_cons] at hnd
  refine ⟨fun q => ?_, List.nodup_append.2 ⟨n2, hnd.2, fun x hx y hy e => hdis x hx (e ▸ List.mem_cons_of_mem _ hy)⟩⟩
  rcases List.mem_append.1 q with q | q
  ·exact hdis g q List.mem_cons_self
  ·exact hnd.1 q
 obtain ⟨okm, ftm⟩ := OwnOk.dmk (E := E) (M := M) (w := w) (m := m) (e := e) (sz := sz) (g := g) (cap := cap) (xs := xs) (rows := rows.set i (r.set j (.sl e' z rows'))) (B := B2) (by rw [hlen]; exact hE) (by rw [hlen]; exact ho)
  (fun r' hr' => by
    rcases List.mem_or_eq_of_mem_set hr' with q | q
    ·exact hz r' q
    ·subst q; rw [List.length_set]; exact hrl) (by rw [hset]; exact h3) hnd' (fun b hb o => by
    rcases (hmem b).1 hb with q | q
    ·exact n3 b q o
    ·exact hM b q o)
 have hkind : ∀ k o, ({ S with own := (n, none) :: (m, some (.dvec e sz (rows.set i (r.set j (.sl e' z rows'))))) :: S.own } : AState).own? k = some o →
   k = m ∧ o = .dvec e sz (rows.set i (r.set j (.sl e' z rows'))) ∨ k ≠ n ∧ k ≠ m ∧ S.own? k = some o := by
  intro k o hk
  simp only [AState.own?, gt_cons] at hk
  by_cases h1 : n = k
  ·rw [if_pos h1] at hk; simp at hk
  ·rw [if_neg h1] at hk
   by_cases h2 : m = k
   ·rw [if_pos h2] at hk; simp at hk; exact .inl ⟨h2.symm, hk.symm⟩
   ·rw [if_neg h2] at hk; exact .inr ⟨Ne.symm h1, Ne.symm h2, hk⟩
 have side : ∀ k o b, k ≠ n → k ≠ m → S.own? k = some o → o.foot w (E k) b → ¬ b ∈ g :: B2 := by
  intro k o b k1 k2 k3 hb q
  rcases (hmem b).1 q with q | q
  ·exact h.apart k n o _ b k1 k3 hn hb ((ftn b).2 q)
  ·exact h.apart k m o _ b k2 k3 hm hb ((hft b).2 q)
 refine h.regroup (fun t x hx => ⟨x, hx, fun u hu => hu⟩) (fun k o hk => ?_) (fun k k' o o' b hkk hk hk' hb hb' => ?_) (fun k o b hk hb => ?_) (fun k hk => rfl)
 ·rcases hkind k o hk with ⟨rfl, rfl⟩ | ⟨k1, k2, k3⟩
  ·exact okm
  ·exact h.own k o k3
 ·rcases hkind k o hk with ⟨rfl, rfl⟩ | ⟨k1, k2, k3⟩
  ·have hb := (ftm b).1 hb
   rcases hkind k' o' hk' with ⟨rfl, rfl⟩ | ⟨q1, q2, q3⟩
   ·exact hkk rfl
   ·exact side k' o' b q1 q2 q3 hb' hb
  ·rcases hkind k' o' hk' with ⟨rfl, rfl⟩ | ⟨q1, q2, q3⟩
   ·exact side k o b k1 k2 k3 hb ((ftm b).1 hb')
   ·exact h.apart k k' o o' b hkk k3 q3 hb hb'
 ·rcases hkind k o hk with ⟨rfl, rfl⟩ | ⟨k1, k2, k3⟩
  ·rcases (hmem b).1 ((ftm b).1 hb) with q | q
   ·exact ⟨n, _, hn, (ftn b).2 q⟩
   ·exact ⟨_, _, hm, (hft b).2 q⟩
  ·exact ⟨k, o, k3, hb⟩
theorem Sim.give0 (h : Sim C E M S a w) {m i j e sz e' z : Nat} {rows : List (List DD)} {r : List DD} (hm : S.own? m = some (.dvec e sz rows)) (hr : rows[i]? = some r) (hj : r[j]? = some .junk)
  (hv : valAt w (E m) (i * sz + j) (.slice none 0 0)) : Sim C E M { S with own := (m, some (.dvec e sz (rows.set i (r.set j (.sl e' z []))))) :: S.own } a w := by
 rcases (h.own m _ hm).dview with ⟨_, rfl, _⟩ | ⟨g, cap, xs, B, hE, ho, hz, hD, hnd, hM, hft⟩
 ·simp at hr
 have hrl := hz r (List.mem_of_getElem? hr)
 have hjl : j < sz := by have := (List.getElem?_eq_some_iff.1 hj).1; omega
 have hil : i < rows.length := (List.getElem?_eq_some_iff.1 hr).1
 have hkl : i * sz + j < rows.length * sz := by
  have : (i + 1) * sz ≤ rows.length * sz := Nat.mul_le_mul_right _ hil
  rw [Nat.succ_mul] at this; omega
 have hxk : xs[i * sz + j]? = some (.slice none 0 0) := by rw [← ho.cellAt _ hkl]; exact hv g _ _ hE
 obtain ⟨B2, h3, h4⟩ := hD.give (q := i * sz + j) (e := e') (z := z) (rows := []) (B1 := []) (by rw [flat_get hz hr hjl]; exact hj) hxk (.mt .nil)
 have hset : (rows.set i (r.set j (.sl e' z []))).flatten = rows.flatten.set (i * sz + j) (.sl e' z []) := flat_set hz hr hjl
 have hlen : (rows.set i (r.set j (DD.sl e' z []))).length = rows.length := List.length_set
 have hmem : ∀ b, b ∈ g :: B2 ↔ b ∈ g :: B := fun b => by rw [List.mem_cons, h4.mem_iff, List.nil_append, List.mem_cons]
 obtain ⟨okm, ftm⟩ := OwnOk.dmk (E := E) (M := M) (w := w) (m := m) (e := e) (sz := sz) (g := g) (cap := cap) (xs := xs) (rows := rows.set i (r.set j (.sl e' z []))) (B := B2) (by rw [hlen]; exact hE) (by rw [hlen]; exact ho)
  (fun r' hr' => by
    rcases List.mem_or_eq_of_mem_set hr' with q | q
    ·exact hz r' q
    ·subst q; rw [List.length_set]; exact hrl) (by rw [hset]; exact h3) (((h4.cons g).nodup_iff).2 (by simpa using hnd)) (fun b hb o => hM b ((hmem b).1 hb) o)
 have hkind : ∀ k o, ({ S with own := (m, some (.dvec e sz (rows.set i (r.set j (.sl e' z []))))) :: S.own } : AState).own? k = some o →
   k = m ∧ o = .dvec e sz (rows.set i (r.set j (.sl e' z []))) ∨ k ≠ m ∧ S.own? k = some o := by
  intro k o hk
  simp only [AState.own?, gt_cons] at hk
  by_cases h2 : m = k
  ·rw [if_pos h2] at hk; simp at hk; exact .inl ⟨h2.symm, hk.symm⟩
  ·rw [if_neg h2] at hk; exact .inr ⟨Ne.symm h2, hk⟩
 have side : ∀ k o b, k ≠ m → S.own? k = some o → o.foot w (E k) b → ¬ b ∈ g :: B2 := fun k o b k2 k3 hb q => h.apart k m o _ b k2 k3 hm hb ((hft b).2 ((hmem b).1 q))
 refine h.regroup (fun t x hx => ⟨x, hx, fun u hu => hu⟩) (fun k o hk => ?_) (fun k k' o o' b hkk hk hk' hb hb' => ?_) (fun k o b hk hb => ?_) (fun k hk => rfl)
 ·rcases hkind k o hk with ⟨rfl, rfl⟩ | ⟨k2, k3⟩
  ·exact okm
  ·exact h.own k o k3
 ·rcases hkind k o hk with ⟨rfl, rfl⟩ | ⟨k2, k3⟩
  ·have hb := (ftm b).1 hb
   rcases hkind k' o' hk' with ⟨rfl, rfl⟩ | ⟨q2, q3⟩
   ·exact hkk rfl
   ·exact side k' o' b q2 q3 hb' hb
  ·rcases hkind k' o' hk' with ⟨rfl, rfl⟩ | ⟨q2, q3⟩
   ·exact side k o b k2 k3 hb ((ftm b).1 hb')
   ·exact h.apart k k' o o' b hkk k3 q3 hb hb'
 ·rcases hkind k o hk with ⟨rfl, rfl⟩ | ⟨k2, k3⟩
  ·exact ⟨_, _, hm, (hft b).2 ((hmem b).1 ((ftm b).1 hb))⟩
  ·exact ⟨k, o, k3, hb⟩
end
end Go.Awp
end
section
namespace Go.Awp
variable [Inhabited GMem]
theorem DDReps.ofD {M : Mem} {w : World} : ∀ {xs : List Value} {ds : List D}, xs.length = ds.length → (∀ (i : Nat) (c : Value) (x : D), xs[i]? = some c → ds[i]? = some x → DRep M c x) → DDReps M w xs (ds.map .d) []
 | [], [], _, _ => .nil
 | [], _ :: _, h, _ => by simp at h
 | _ :: _, [], h, _ => by simp at h
 | v :: vs, y :: ds, h, hr => .d (hr 0 v y rfl rfl) (DDReps.ofD (by simpa using h) fun i c x h1 h2 => hr (i + 1) c x (by simpa using h1) (by simpa using h2))
theorem DDReps.getD {M : Mem} {w : World} {vs : List Value} {ds : List DD} {B : List Nat} (h : DDReps M w vs ds B) : ∀ {q : Nat} {v : Value} {x : D}, vs[q]? = some v → ds[q]? = some (.d x) → DRep M v x := by
 induction h with
 | nil => intro q v x h; simp at h
 | d h r ih =>
  intro q v x hv hd
  cases q with
  | zero => simp at hv hd; subst hv; subst hd; exact h
  | succ q => exact ih (by simpa using hv) (by simpa using hd)
 | junk r ih =>
  intro q v x hv hd
  cases q with
  | zero => simp at hd
  | succ q => exact ih (by simpa using hv) (by simpa using hd)
 | mt r ih =>
  intro q v x hv hd
  cases q with
  | zero => simp at hd
  | succ q => exact ih (by simpa using hv) (by simpa using hd)
 | sl _ _ _ _ _ _ ih =>
  intro q v x hv hd
  cases q with
  | zero => simp at hd
  | succ q => exact ih (by simpa using hv) (by simpa using hd)
theorem DDReps.nilB {M : Mem} {w : World} {vs : List Value} {ds : List DD} {B : List Nat} (h : DDReps M w vs ds B) : ∀ {l : List D}, ds = l.map .d → B = [] := by
 induction h with
 | nil => intro l _; rfl
 | d _ _ ih => intro l hl; cases l with
  | nil => cases hl
  | cons a r => exact ih (by simpa using (List.cons.inj hl).2)
 | junk _ _ => intro l hl; cases l with
  | nil => cases hl
  | cons a r => cases (List.cons.inj hl).1
 | mt _ _ => intro l hl; cases l with
  | nil => cases hl
  | cons a r => cases (List.cons.inj hl).1
 | sl _ _ _ _ _ _ _ => intro l hl; cases l with
  | nil => cases hl
  | cons a r => cases (List.cons.inj hl).1
theorem flat_map_d (rows : List (List D)) : (rows.map fun r => r.map DD.d).flatten = rows.flatten.map DD.d := by
 induction rows with
 | nil => rfl
 | cons a r ih => rw [List.map_cons, List.flatten_cons, List.flatten_cons, List.map_append, ih]
theorem v2d {E : Env} {M : Mem} {w : World} {n e sz : Nat} {rows : List (List D)} (h : OwnOk E M w n (.vec e sz rows)) :
  OwnOk E M w n (.dvec e sz (rows.map fun r => r.map .d)) ∧ ∀ b, (Own.dvec e sz (rows.map fun r => r.map .d)).foot w (E n) b ↔ (Own.vec e sz rows).foot w (E n) b := by
 obtain ⟨xs, h1, h2, h3, h4⟩ := h
 have hz : ∀ r ∈ rows.map fun r => r.map DD.d, r.length = sz := fun r hr => by
  obtain ⟨r0, hr0, rfl⟩ := List.mem_map.1 hr
  rw [List.length_map]; exact h2 r0 hr0
 rcases h1.2 with ⟨hn, hl⟩ | ⟨g, cap, cur, hE, rest⟩
 ·have hl' : rows = [] := List.eq_nil_of_length_eq_zero hl
  subst hl'
  obtain ⟨k1, k2⟩ := OwnOk.dmt (E := E) (M := M) (w := w) (m := n) (e := e) (sz := sz) hn
  refine ⟨k1, fun b => ⟨fun hb => (k2 b hb).elim, fun hb => ?_⟩⟩
  rw [hn] at hb; simp [Own.foot, blockOf] at hb
 ·have hD : DDReps M w xs (rows.map fun r => r.map DD.d).flatten [] := by
   rw [flat_map_d]
   refine .ofD (by rw [flat_len h2]; exact h1.1) fun q c x hc hx => ?_
   have hq : q < rows.length * sz := by rw [← flat_len h2]; exact (List.getElem?_eq_some_iff.1 hx).1
   have hpos : 0 < sz := by
    rcases Nat.eq_zero_or_pos sz with h | h
    ·rw [h] at hq; simp at hq
    ·exact h
   have hi : q / sz < rows.length := Nat.div_lt_of_lt_mul (by rw [Nat.mul_comm]; exact hq)
   have hdm : q / sz * sz + q % sz = q := by rw [Nat.mul_comm]; exact Nat.div_add_mod q sz
   have hx' : (rows[q / sz])[q % sz]? = some x := by
    rw [← flat_get h2 (List.getElem?_eq_getElem hi) (Nat.mod_lt _ hpos), hdm]; exact hx
   exact h3 (q / sz) (q % sz) _ c x (List.getElem?_eq_getElem hi) hx' (by rw [hdm]; exact hc)
  obtain ⟨k1, k2⟩ := OwnOk.dmk (E := E) (M := M) (w := w) (m := n) (e := e) (sz := sz) (g := g) (cap := cap) (xs := xs) (rows := rows.map fun r => r.map DD.d) (B := []) (by rw [List.length_map]; exact hE) (by rw [List.length_map, ← hE]; exact h1) hz hD (by simp)
   (fun b hb => by
     rcases List.mem_cons.1 hb with q | q
     ·subst q; exact h4 b (by rw [hE]; rfl)
     ·cases q)
  refine ⟨k1, fun b => (k2 b).trans ?_⟩
  rw [hE]; simp [Own.foot, blockOf, eq_comm]
theorem d2v {E : Env} {M : Mem} {w : World} {n e sz : Nat} {rows : List (List D)} (h : OwnOk E M w n (.dvec e sz (rows.map fun r => r.map .d))) :
  OwnOk E M w n (.vec e sz rows) ∧ ∀ b, (Own.dvec e sz (rows.map fun r => r.map .d)).foot w (E n) b ↔ (Own.vec e sz rows).foot w (E n) b := by
 rcases h.dview with ⟨hE, hr, hf⟩ | ⟨g, cap, xs, B, hE, ho, hz, hD, hnd, hM, hft⟩
 ·have hl' : rows = [] := by simpa using hr
  subst hl'
  refine ⟨⟨[], by rw [hE]; exact World.ownsRow_nil w 0 e sz, by simp, by simp, fun b hb => by rw [hE] at hb; simp [blockOf] at hb⟩, fun b => ⟨fun q => (hf b q).elim, fun q => by rw [hE] at q; simp [Own.foot, blockOf] at q⟩⟩
 ·rw [List.length_map] at hE ho
  have hz' : ∀ r ∈ rows, r.length = sz := fun r hr => by
   have := hz _ (List.mem_map.2 ⟨r, hr, rfl⟩)
   rwa [List.length_map] at this
  rw [flat_map_d] at hD
  have hB := hD.nilB rfl
  subst hB
  refine ⟨⟨xs, by rw [hE]; exact ho, hz', fun i j r c x hr hx hc => ?_, fun b hb => by rw [hE] at hb; simp [blockOf] at hb; subst hb; exact hM _ List.mem_cons_self⟩, fun b => (hft b).trans ?_⟩
  ·have hj : j < sz := by have := hz' r (List.mem_of_getElem? hr); have := (List.getElem?_eq_some_iff.1 hx).1; omega
   exact hD.getD hc (by rw [List.getElem?_map, flat_get hz' hr hj, hx]; rfl)
  ·rw [hE]; simp [Own.foot, blockOf, eq_comm]
mutual
def DD.toD : DD → Option D
 | .d x => some x
 | .junk => none
 | .sl _ z rows => match DD.toR rows with
  | some r => some (.sl z r)
  | none => none
def DD.toR : List (List DD) → Option (List (List D))
 | [] => some []
 | r :: s => match DD.toL r, DD.toR s with
  | some x, some y => some (x :: y)
  | _, _ => none
def DD.toL : List DD → Option (List D)
 | [] => some []
 | x :: r => match DD.toD x, DD.toL r with
  | some y, some z => some (y :: z)
  | _, _ => none
end
theorem DD.toL_app : ∀ {l l' : List DD} {x y : List D}, DD.toL l = some x → DD.toL l' = some y → DD.toL (l ++ l') = some (x ++ y)
 | [], l', x, y, h, h' => by simp [DD.toL] at h; subst h; simpa using h'
 | a :: r, l', x, y, h, h' => by
  simp only [DD.toL] at h
  split at h
  ·rename_i u v hu hv
   cases h
   simp [DD.toL, hu, DD.toL_app hv h']
  ·cases h
theorem DD.toR_flat : ∀ {rows : List (List DD)} {ds : List (List D)}, DD.toR rows = some ds → DD.toL rows.flatten = some ds.flatten
 | [], ds, h => by simp [DD.toR] at h; subst h; simp [DD.toL]
 | r :: s, ds, h => by
  simp only [DD.toR] at h
  split at h
  ·rename_i x y hx hy
   cases h
   rw [List.flatten_cons, List.flatten_cons]
   exact DD.toL_app hx (DD.toR_flat hy)
  ·cases h
theorem DD.toL_len : ∀ {l : List DD} {x : List D}, DD.toL l = some x → x.length = l.length
 | [], x, h => by simp [DD.toL] at h; subst h; rfl
 | a :: r, x, h => by
  simp only [DD.toL] at h
  split at h
  ·rename_i u v hu hv
   cases h
   simp [DD.toL_len hv]
  ·cases h
theorem DD.toR_len : ∀ {rows : List (List DD)} {ds : List (List D)}, DD.toR rows = some ds → ds.length = rows.length ∧ ∀ sz, (∀ r ∈ rows, r.length = sz) → ∀ r ∈ ds, r.length = sz
 | [], ds, h => by simp [DD.toR] at h; subst h; simp
 | r :: s, ds, h => by
  simp only [DD.toR] at h
  split at h
  ·rename_i x y hx hy
   cases h
   obtain ⟨h1, h2⟩ := DD.toR_len hy
   refine ⟨by simp [h1], fun sz hz r' hr' => ?_⟩
   rcases List.mem_cons.1 hr' with q | q
   ·subst q; rw [DD.toL_len hx]; exact hz r List.mem_cons_self
   ·exact h2 sz (fun r hr => hz r (List.mem_cons_of_mem _ hr)) r' q
  ·cases h
theorem DDReps.frozen {M M' : Mem} {w : World} (hM : M.le M') {vs : List Value} {ds : List DD} {B : List Nat} (h : DDReps M w vs ds B) : (∀ b ∈ B, ∀ o v, w.cell? ⟨b, o, none⟩ = some v → M' b o = some v) → ∀ {xs : List D}, DD.toL ds = some xs →
  ∀ (i : Nat) (c : Value) (x : D), vs[i]? = some c → xs[i]? = some x → DRep M' c x := by
 induction h with
 | nil => intro _ xs _ i c x h; simp at h
 | d h r ih =>
  intro hB xs hx i c x hc hi
  simp only [DD.toL, DD.toD] at hx
  split at hx
  ·rename_i y z hy hz
   cases hy; cases hx
   cases i with
   | zero => simp at hc hi; subst hc; subst hi; exact h.mono hM
   | succ i => exact ih hB hz i c x (by simpa using hc) (by simpa using hi)
  ·cases hx
 | junk r ih => intro hB xs hx i c x hc hi; simp [DD.toL, DD.toD] at hx
 | mt r ih =>
  intro hB xs hx i c x hc hi
  simp only [DD.toL, DD.toD, DD.toR] at hx
  split at hx
  ·rename_i y z hy hz
   cases hy; cases hx
   cases i with
   | zero => simp at hc hi; subst hc; subst hi; exact .slnil _
   | succ i => exact ih hB hz i c x (by simpa using hc) (by simpa using hi)
  ·cases hx
 | @sl g n cap e sz rows xs0 vs ds B0 B hn ho hz h r ih1 ih =>
  intro hB xs hx i c x hc hi
  simp only [DD.toL, DD.toD] at hx
  split at hx
  ·rename_i y z hy hz'
   cases hx
   split at hy
   ·rename_i rs hrs
    cases hy
    cases i with
    | zero =>
     simp at hc hi; subst hc; subst hi
     obtain ⟨l1, l2⟩ := DD.toR_len hrs
     have hin := ih1 (fun b hb => hB b (List.mem_cons_of_mem _ (List.mem_append.2 (.inl hb)))) (DD.toR_flat hrs)
     have l2' := l2 sz hz
     have hxl : xs0.length = n * sz := ho.1
     refine .sl g 0 n cap sz rs (fun k => xs0.getD k undef) (by rw [l1]; exact hn) ?_ l2' (fun k hk => ?_) fun i j r x hr hx => ?_
     ·rcases ho.2 with ⟨q, _⟩ | ⟨_, _, _, q, _, _, q2, _⟩
      ·cases q
      ·cases q; exact q2
     ·refine hB g List.mem_cons_self _ _ ?_
      rw [Nat.zero_add, ho.cellAt _ hk, List.getElem?_eq_getElem (by omega)]
      simp [show k < xs0.length by omega]
     ·have hj : j < sz := by have := l2' r (List.mem_of_getElem? hr); have := (List.getElem?_eq_some_iff.1 hx).1; omega
      have hi : i < rs.length := (List.getElem?_eq_some_iff.1 hr).1
      have hk : i * sz + j < xs0.length := by
       have : (i + 1) * sz ≤ rs.length * sz := Nat.mul_le_mul_right _ hi
       rw [Nat.succ_mul, l1, ← hn] at this; omega
      have : xs0.getD (i * sz + j) undef = xs0[i * sz + j] := by simp [hk]
      rw [this]
      exact hin (i * sz + j) _ x (List.getElem?_eq_getElem hk) (by rw [flat_get l2' hr hj]; exact hx)
    | succ i => exact ih (fun b hb => hB b (List.mem_cons_of_mem _ (List.mem_append.2 (.inr hb)))) hz' i c x (by simpa using hc) (by simpa using hi)
   ·cases hy
  ·cases hx
section
variable {C : Ctx} {E : Env} {M : Mem} {S : AState} {a : Act} {w : World}
theorem Sim.dfrz (h : Sim C E M S a w) {n e sz : Nat} {rows : List (List DD)} {ds : List (List D)} (hn : S.own? n = some (.dvec e sz rows)) (hd : DD.toR rows = some ds) :
  ∃ M', Sim C E M' { S with own := (n, some (.vec e sz ds)) :: S.own } a w := by
 obtain ⟨l1, l2⟩ := DD.toR_len hd
 have hkind : ∀ k o, ({ S with own := (n, some (.vec e sz ds)) :: S.own } : AState).own? k = some o → k = n ∧ o = .vec e sz ds ∨ k ≠ n ∧ S.own? k = some o := by
  intro k o hk
  simp only [AState.own?, gt_cons] at hk
  by_cases h1 : n = k
  ·rw [if_pos h1] at hk; simp at hk; exact .inl ⟨h1.symm, hk.symm⟩
  ·rw [if_neg h1] at hk; exact .inr ⟨Ne.symm h1, hk⟩
 rcases (h.own n _ hn).dview with ⟨hE, rfl, _⟩ | ⟨g, cap, xs, B, hE, ho, hz, hD, hnd, hM, hft⟩
 ·simp [DD.toR] at hd; subst hd
  have hv : OwnOk E M w n (.vec e sz []) := ⟨[], by rw [hE]; exact World.ownsRow_nil w 0 e sz, by simp, by simp, fun b hb => by rw [hE] at hb; simp [blockOf] at hb⟩
  have hvf : ∀ b, ¬ (Own.vec e sz []).foot w (E n) b := fun b hb => by rw [hE] at hb; simp [Own.foot, blockOf] at hb
  refine ⟨M, h.regroup (fun t x hx => ⟨x, hx, fun v hv => hv⟩) (fun k o hk => ?_) (fun k k' o o' b hkk hk hk' hb hb' => ?_) (fun k o b hk hb => ?_) fun k hk => rfl⟩
  ·rcases hkind k o hk with ⟨rfl, rfl⟩ | ⟨q1, q2⟩
   ·exact hv
   ·exact h.own k o q2
  ·rcases hkind k o hk with ⟨rfl, rfl⟩ | ⟨q1, q2⟩
   ·exact hvf b hb
   ·rcases hkind k' o' hk' with ⟨rfl, rfl⟩ | ⟨p1, p2⟩
    ·exact hvf b hb'
    ·exact h.apart k k' o o' b hkk q2 p2 hb hb'
  ·rcases hkind k o hk with ⟨rfl, rfl⟩ | ⟨q1, q2⟩
   ·exact (hvf b hb).elim
   ·exact ⟨k, o, q2, hb⟩
 ·let M' : Mem := fun b o => match M b o with
   | some v => some v
   | none => if b ∈ B then w.cell? ⟨b, o, none⟩ else none
  have hle : M.le M' := fun b o v hv => by simp [M', hv]
  have hin : ∀ b ∈ B, ∀ o v, w.cell? ⟨b, o, none⟩ = some v → M' b o = some v := fun b hb o v hv => by
   simp only [M', hM b (List.mem_cons_of_mem _ hb) o, if_pos hb, hv]
  have hfrz := hD.frozen hle hin (DD.toR_flat hd)
  have hMg : ∀ o, M' g o = none := fun o => by
   simp only [M', hM g List.mem_cons_self o]
   rw [if_neg (List.nodup_cons.1 hnd).1]
  have hcase : ∀ b o v, M' b o = some v → M b o = some v ∨ b ∈ B ∧ w.cell? ⟨b, o, none⟩ = some v := by
   intro b o v hv
   cases hm : M b o with
   | some u => simp only [M', hm] at hv; exact .inl hv
   | none =>
    simp only [M', hm] at hv
    split at hv
    ·rename_i hb; exact .inr ⟨hb, hv⟩
    ·cases hv
  have hBf : ∀ b, b ∈ B → (Own.dvec e sz rows).foot w (E n) b := fun b hb => (hft b).2 (List.mem_cons_of_mem _ hb)
  have hnone : ∀ k o, k ≠ n → S.own? k = some o → ∀ b, o.foot w (E k) b → ∀ q, M' b q = none := by
   intro k o hk ho' b hb q
   cases hm : M' b q with
   | none => rfl
   | some v =>
    rcases hcase b q v hm with p | ⟨p, _⟩
    ·rw [((h.own k o ho').block hb).2 q] at p; cases p
    ·exact (h.apart k n o _ b hk ho' hn hb (hBf b p)).elim
  have hvec : OwnOk E M' w n (.vec e sz ds) := by
   refine ⟨xs, by rw [hE, l1]; exact ho, l2 sz hz, fun i j r c x hr hx hc => ?_, fun b hb q => ?_⟩
   ·have hj : j < sz := by have := l2 sz hz r (List.mem_of_getElem? hr); have := (List.getElem?_eq_some_iff.1 hx).1; omega
    exact hfrz (i * sz + j) c x hc (by rw [flat_get (l2 sz hz) hr hj]; exact hx)
   ·rw [hE] at hb; simp [blockOf] at hb; subst hb; exact hMg q
  have hvf : ∀ b, (Own.vec e sz ds).foot w (E n) b → (Own.dvec e sz rows).foot w (E n) b := fun b hb => by
   rw [hE] at hb; simp [Own.foot, blockOf] at hb; subst hb; exact (hft _).2 List.mem_cons_self
  refine ⟨M', { size := h.size, defers := h.defers, fixed := h.fixed, tmps := fun t x hx => ?_, mem := fun b o v hv => ?_, own := fun k o hk => ?_, apart := fun k k' o o' b hkk hk hk' hb hb' => ?_, home := fun k o b hk hb => ?_, m0 := Mem.le_trans h.m0 hle, mnew := fun b o v hv => ?_, frame := h.frame, grows := h.grows, os := h.os, tape := h.tape, output := h.output, env := h.env }⟩
  ·obtain ⟨v, h1, h2⟩ := h.tmps t x hx
   exact ⟨v, h1, h2.le hle⟩
  ·rcases hcase b o v hv with q | ⟨_, q⟩
   ·exact h.mem b o v q
   ·exact q
  ·rcases hkind k o hk with ⟨rfl, rfl⟩ | ⟨q1, q2⟩
   ·exact hvec
   ·exact (h.own k o q2).keep rfl (fun _ _ => rfl) (fun _ _ => rfl) hle (hnone k o q1 q2)
  ·rcases hkind k o hk with ⟨rfl, rfl⟩ | ⟨q1, q2⟩
   ·rcases hkind k' o' hk' with ⟨rfl, rfl⟩ | ⟨p1, p2⟩
    ·exact hkk rfl
    ·exact h.apart _ k' _ o' b hkk hn p2 (hvf b hb) hb'
   ·rcases hkind k' o' hk' with ⟨rfl, rfl⟩ | ⟨p1, p2⟩
    ·exact h.apart k _ o _ b hkk q2 hn hb (hvf b hb')
    ·exact h.apart k k' o o' b hkk q2 p2 hb hb'
  ·rcases hkind k o hk with ⟨rfl, rfl⟩ | ⟨q1, q2⟩
   ·exact h.home _ _ b hn (hvf b hb)
   ·exact h.home k o b q2 hb
  ·rcases hcase b o v hv with q | ⟨q, _⟩
   ·exact h.mnew b o v q
   ·exact .inr (h.home n _ b hn (hBf b q))
theorem Sim.own_many (h : Sim C E M S a w) {E' : Env} {d : Nat} {o' : Own} {w' : World} (ns : List Nat) {row : Option Nat} (hg : w.grownBy w' row)
  (hrow : ∀ b, row = some b → ∃ n ∈ ns, ∃ o, S.own? n = some o ∧ o.foot w (E n) b) (hE : ∀ m, m ≠ d → E' m = E m) (hd : d ∈ ns ∧ E' d = E d ∨ S.fresh d = true ∧ d < given)
  (hb : ∀ b, o'.foot w' (E' d) b → (∃ n ∈ ns, ∃ o, S.own? n = some o ∧ o.foot w (E n) b) ∨ w.heap.size ≤ b) (ok : OwnOk E' M w' d o') :
  Sim C E' M { S with own := (d, some o') :: (ns.map fun n => (n, none)) ++ S.own } a w' := by
 have hEt : ∀ t x, gt S.tmps t = some x → ∀ k, H.has k x = true → E' k = E k := by
  intro t x hx k hk
  by_cases hkd : k = d
  ·subst hkd
   rcases hd with ⟨_, he⟩ | ⟨hf, _⟩
   ·exact he
   ·rw [AState.fresh_tmp hf hx] at hk; cases hk
  ·exact hE k hkd
 have hEo : ∀ m o, S.own? m = some o → ∀ k, Own.has k o = true → E' k = E k := by
  intro m o ho k hk
  by_cases hkd : k = d
  ·subst hkd
   rcases hd with ⟨_, he⟩ | ⟨hf, _⟩
   ·exact he
   ·rw [AState.fresh_cell hf ho] at hk; cases hk
  ·exact hE k hkd
 have hgn : ∀ (l : List Nat) (r : List (Nat × Option Own)) (m : Nat) (o : Own), (gt ((l.map fun n => (n, none)) ++ r) m).getD none = some o → m ∉ l ∧ (gt r m).getD none = some o := by
  intro l
  induction l with
  | nil => intro r m o hh; exact ⟨by simp, by simpa using hh⟩
  | cons k l ih =>
   intro r m o hh
   rw [List.map_cons, List.cons_append, gt_cons] at hh
   by_cases hk : k = m
   ·rw [if_pos hk] at hh; simp at hh
   ·rw [if_neg hk] at hh
    obtain ⟨h1, h2⟩ := ih r m o hh
    exact ⟨fun q => by
     rcases List.mem_cons.1 q with q | q
     ·exact hk q.symm
     ·exact h1 q, h2⟩
 have hold : ∀ m o, ({ S with own := (d, some o') :: (ns.map fun n => (n, none)) ++ S.own } : AState).own? m = some o → m = d ∧ o = o' ∨ m ≠ d ∧ m ∉ ns ∧ S.own? m = some o := by
  intro m o ho
  simp only [AState.own?, List.cons_append, gt_cons] at ho
  by_cases h1 : d = m
  ·rw [if_pos h1] at ho; simp at ho; exact .inl ⟨h1.symm, ho.symm⟩
  ·rw [if_neg h1] at ho
   obtain ⟨k1, k2⟩ := hgn ns S.own m o ho
   exact .inr ⟨Ne.symm h1, k1, k2⟩
 have hrow' : ∀ m o b, m ∉ ns → S.own? m = some o → o.foot w (E m) b → some b ≠ row := fun m o b hne hm hbm he => by
  obtain ⟨n, hn, on, ho, hf⟩ := hrow b he.symm
  exact h.apart m n o on b (fun e => hne (e ▸ hn)) hm ho hbm hf
 have hsame : ∀ m o, m ∉ ns → S.own? m = some o → ∀ b, o.foot w (E m) b → w'.heap[b]? = w.heap[b]? := fun m o hne hm b hbm => hg.block b (h.block_lt hm hbm) (hrow' m o b hne hm hbm)
 have hfoot : ∀ m o, m ∉ ns → S.own? m = some o → ∀ b, o.foot w' (E m) b → o.foot w (E m) b := fun m o hne hm b hbm => ((h.own m o hm).foot_keep (hsame m o hne hm) b).1 hbm
 refine { size := h.size, defers := h.defers, fixed := h.fixed, tmps := ?_, mem := ?_, own := ?_, apart := ?_, home := ?_, m0 := h.m0, mnew := h.mnew, frame := ?_, grows := ?_, os := ?_, tape := ?_, output := ?_, env := ?_ }
 ·intro t x hx
  obtain ⟨v, hv, hr⟩ := h.tmps t x hx
  exact ⟨v, hv, hr.mono (Mem.le_refl M) (hEt t x hx)⟩
 ·intro b o v hv
  refine hg.cell (h.mem b o v hv) fun he => ?_
  obtain ⟨n, hn, on, ho, hf⟩ := hrow b he.symm
  rw [((h.own n on ho).block hf).2 o] at hv
  cases hv
 ·intro m o ho
  rcases hold m o ho with ⟨rfl, rfl⟩ | ⟨h1, h2, h3⟩
  ·exact ok
  ·exact (h.own m o h3).keep (hE m h1) (hsame m o h2 h3) (hEo m o h3) (Mem.le_refl M) fun b hbm => ((h.own m o h3).block hbm).2
 ·intro m m' o o2 b hne hm hm' hbm hbm'
  have one : ∀ k ok, k ≠ d → k ∉ ns → S.own? k = some ok → ok.foot w (E k) b → o'.foot w' (E' d) b → False := by
   intro k ok k1 k2 k3 hbk hbd
   rcases hb b hbd with ⟨n, hn, on, ho, hf⟩ | q
   ·exact h.apart k n ok on b (fun e => k2 (e ▸ hn)) k3 ho hbk hf
   ·have := h.block_lt k3 hbk; omega
  rcases hold m o hm with ⟨rfl, rfl⟩ | ⟨h1, h2, h3⟩
  ·rcases hold m' o2 hm' with ⟨rfl, rfl⟩ | ⟨k1, k2, k3⟩
   ·exact hne rfl
   ·rw [hE m' k1] at hbm'
    exact one m' o2 k1 k2 k3 (hfoot m' o2 k2 k3 b hbm') hbm
  ·rw [hE m h1] at hbm
   replace hbm := hfoot m o h2 h3 b hbm
   rcases hold m' o2 hm' with ⟨rfl, rfl⟩ | ⟨k1, k2, k3⟩
   ·exact one m o h1 h2 h3 hbm hbm'
   ·rw [hE m' k1] at hbm'
    exact h.apart m m' o o2 b hne h3 k3 hbm (hfoot m' o2 k2 k3 b hbm')
 ·intro m o b hm hbm
  rcases hold m o hm with ⟨rfl, rfl⟩ | ⟨h1, h2, h3⟩
  ·rcases hb b hbm with ⟨n, hn, on, ho, hf⟩ | q
   ·exact h.home n on b ho hf
   ·exact .inr (Nat.le_trans h.grows q)
  ·rw [hE m h1] at hbm
   exact h.home m o b h3 (hfoot m o h2 h3 b hbm)
 ·intro k hk hke
  rw [hg.block k (Nat.lt_of_lt_of_le hk h.grows) fun he => ?_]
  ·exact h.frame k hk hke
  ·obtain ⟨n, hn, on, ho, hf⟩ := hrow k he.symm
   rcases h.home n on k ho hf with q | q
   ·exact hke q
   ·omega
 ·exact Nat.le_trans h.grows hg.size
 ·exact hg.os.trans h.os
 ·exact hg.tape.trans h.tape
 ·exact hg.output.trans h.output
 ·intro m hm
  by_cases hmd : m = d
  ·subst hmd
   rcases hd with ⟨_, he⟩ | ⟨_, hf⟩
   ·rw [he]; exact h.env m hm
   ·omega
  ·rw [hE m hmd]; exact h.env m hm
end
end Go.Awp
end
section
namespace Go.Awp
variable [Inhabited GMem]
theorem OwnOk.dlen {E : Env} {M : Mem} {w : World} {n e sz : Nat} {rows : List (List DD)} (h : OwnOk E M w n (.dvec e sz rows)) : ∃ ad cap, E n = .slice ad rows.length cap := by
 rcases h.dview with ⟨hE, rfl, _⟩ | ⟨g, cap, xs, B, hE, _⟩
 ·exact ⟨none, 0, hE⟩
 ·exact ⟨_, _, hE⟩
theorem OwnOk.dvh {E : Env} {M : Mem} {w : World} {n e sz : Nat} {rows : List (List DD)} (h : OwnOk E M w n (.dvec e sz rows)) : HRep E M (E n) (.vh n rows.length) := by
 obtain ⟨ad, cap, hE⟩ := h.dlen
 rw [hE]; exact .vh n _ _ _ ad hE (Nat.le_refl _)
def takeC (nf : Nat → Nat) : Nat → List DD → Option (List H × List (Nat × Own) × List DD)
 | _, [] => some ([], [], [])
 | j, c :: r => match takeC nf (j + 1) r with
  | some (hs, os, ds) => match c with
   | .d x => some (.d x :: hs, os, .d x :: ds)
   | .sl e z rows => some (.vh (nf j) rows.length :: hs, (nf j, .dvec e z rows) :: os, .junk :: ds)
   | .junk => none
  | none => none
theorem takeC_len {nf : Nat → Nat} : ∀ {l : List DD} {j : Nat} {hs : List H} {os : List (Nat × Own)} {ds : List DD}, takeC nf j l = some (hs, os, ds) → hs.length = l.length ∧ ds.length = l.length
 | [], j, hs, os, ds, h => by simp [takeC] at h; obtain ⟨rfl, rfl, rfl⟩ := h; exact ⟨rfl, rfl⟩
 | c :: r, j, hs, os, ds, h => by
  simp only [takeC] at h
  split at h
  ·rename_i hs1 os1 ds1 h1
   obtain ⟨k1, k2⟩ := takeC_len h1
   cases c with
   | d x => cases h; simp [k1, k2]
   | sl e z rows => cases h; simp [k1, k2]
   | junk => cases h
  ·cases h
section
variable {C : Ctx} {M : Mem} {a : Act} {w : World}
theorem AState.fresh2 {S : AState} {n k m : Nat} {o o' : Own} (h : S.fresh n = true) (hk : n ≠ k) (hm : n ≠ m) (ho : Own.has n o = false) (ho' : Own.has n o' = false) : ({ S with own := (k, some o) :: (m, some o') :: S.own } : AState).fresh n = true := by
 unfold AState.fresh at h ⊢
 simp only [Bool.and_eq_true, List.all_cons, Bool.not_eq_true'] at h ⊢
 refine ⟨⟨?_, h.1.2⟩, ho, ho', h.2⟩
 simp only [AState.own?, gt_cons]
 rw [if_neg (Ne.symm hk), if_neg (Ne.symm hm)]
 exact h.1.1
theorem Sim.takeL {m i e sz : Nat} {nf : Nat → Nat} : ∀ (l : List DD) (j : Nat) (E : Env) (S : AState) (rows : List (List DD)) (r pre post : List DD) (hs : List H) (os : List (Nat × Own)) (ds : List DD) (vs : List Value), Sim C E M S a w →
  S.own? m = some (.dvec e sz rows) → rows[i]? = some r → r = pre ++ l ++ post → pre.length = j → takeC nf j l = some (hs, os, ds) → (∀ p ∈ os, S.fresh p.1 = true ∧ p.1 < given) → (os.map (·.1)).Nodup →
  vs.length = l.length → (∀ (k : Nat) v, vs[k]? = some v → valAt w (E m) (i * sz + (j + k)) v) → (∀ (k : Nat) v x, vs[k]? = some v → l[k]? = some (.d x) → DRep M v x) → (E m ≠ .slice none 0 0) →
  ∃ E', Sim C E' M { S with own := (m, some (.dvec e sz (rows.set i (pre ++ ds ++ post)))) :: os.map (fun p => (p.1, some p.2)) ++ S.own } a w ∧ (∀ k, gt os k = none → E' k = E k) ∧
   ∀ (k : Nat) v h, vs[k]? = some v → hs[k]? = some h → HRep E' M v h
 | [], j, E, S, rows, r, pre, post, hs, os, ds, vs, h, hm, hr, hrr, hpl, ht, _, _, hvl, _, _, _ => by
  simp [takeC] at ht
  obtain ⟨rfl, rfl, rfl⟩ := ht
  refine ⟨E, h.weaken (fun t x hx => .inl hx) (fun n o hn => ?_), fun _ _ => rfl, fun k v x _ hx => by simp at hx⟩
  simp only [List.map_nil, List.nil_append, List.cons_append, AState.own?, gt_cons] at hn
  by_cases hnm : m = n
  ·rw [if_pos hnm] at hn
   subst hnm
   simp at hn; subst hn
   have : rows.set i (pre ++ post) = rows := by
    simp at hrr
    rw [← hrr]
    apply List.ext_getElem?
    intro q
    rw [List.getElem?_set]
    split
    ·rename_i hq; subst hq; split
     ·exact hr.symm
     ·rename_i hq; rw [List.getElem?_eq_none (by omega)] at hr; cases hr
    ·rfl
   rw [this]; exact hm
  ·rw [if_neg hnm] at hn; exact hn
 | c :: l, j, E, S, rows, r, pre, post, hs, os, ds, vs, h, hm, hr, hrr, hpl, ht, hf, hnd, hvl, hva, hd, hnn => by
  cases vs with
  | nil => simp at hvl
  | cons v vs =>
   simp only [takeC] at ht
   split at ht
   ·rename_i hs1 os1 ds1 h1
    cases c with
    | junk => cases ht
    | d x =>
     cases ht
     obtain ⟨E', k1, k2, k3⟩ := Sim.takeL l (j + 1) E S rows r (pre ++ [.d x]) post hs1 os ds1 vs h hm hr (by rw [hrr]; simp) (by simp [hpl]) h1 hf hnd (by simpa using hvl)
      (fun k u hu => by have := hva (k + 1) u (by simpa using hu); rwa [show j + 1 + k = j + (k + 1) by omega]) (fun k u y hu hy => hd (k + 1) u y (by simpa using hu) (by simpa using hy)) hnn
     refine ⟨E', by simpa using k1, k2, fun k u y hu hy => ?_⟩
     cases k with
     | zero => simp at hu hy; subst hu; subst hy; exact .d (hd 0 _ x rfl rfl)
     | succ k => exact k3 k u y (by simpa using hu) (by simpa using hy)
    | sl e' z rows' =>
     cases ht
     have hn := hf (nf j, .dvec e' z rows') List.mem_cons_self
     have hrj : r[j]? = some (.sl e' z rows') := by rw [hrr, ← hpl]; simp
     obtain ⟨u, hu, hs'⟩ := h.take1 hm hr hrj hn.1 hn.2
     have hne : nf j ≠ m := fun e => by have := AState.fresh_own hn.1; rw [e, hm] at this; cases this
     have huv : u = v := by
      have k1 := hva 0 v rfl
      rw [Nat.add_zero] at k1
      rcases (h.own m _ hm).dview with ⟨hE, _⟩ | ⟨g, cap, xs, B, hE, _⟩
      ·exact (hnn hE).elim
      ·have a1 := hu g _ _ hE
       have a2 := k1 g _ _ hE
       rw [a1] at a2; cases a2; rfl
     subst huv
     have hm' : ({ S with own := (nf j, some (.dvec e' z rows')) :: (m, some (.dvec e sz (rows.set i (r.set j .junk)))) :: S.own } : AState).own? m = some (.dvec e sz (rows.set i (r.set j .junk))) := by
      simp only [AState.own?, gt_cons]; rw [if_neg hne]; simp
     have hil : i < rows.length := (List.getElem?_eq_some_iff.1 hr).1
     have hr' : (rows.set i (r.set j .junk))[i]? = some (r.set j .junk) := by simp [hil]
     have hrs : r.set j .junk = (pre ++ [.junk]) ++ l ++ post := by
      rw [hrr, ← hpl]; simp
     rw [List.map_cons, List.nodup_cons] at hnd
     have hEm : (if m = nf j then u else E m) = E m := if_neg (Ne.symm hne)
     obtain ⟨E', k1, k2, k3⟩ := Sim.takeL l (j + 1) _ _ _ (r.set j .junk) (pre ++ [.junk]) post hs1 os1 ds1 vs hs' hm' hr' hrs (by simp [hpl]) h1
      (fun p hp => by
        have q := hf p (List.mem_cons_of_mem _ hp)
        refine ⟨AState.fresh2 q.1 (fun e => hnd.1 (e ▸ List.mem_map_of_mem hp)) (fun e => by have := AState.fresh_own q.1; rw [e, hm] at this; cases this) rfl rfl, q.2⟩) hnd.2 (by simpa using hvl)
      (fun k q hq => by
        have := hva (k + 1) q (by simpa using hq)
        simp only [hEm]
        rwa [show j + 1 + k = j + (k + 1) by omega]) (fun k q y hq hy => hd (k + 1) q y (by simpa using hq) (by simpa using hy)) (by simp only [hEm]; exact hnn)
     have hgn : gt os1 (nf j) = none := by
      cases hg : gt os1 (nf j) with
      | none => rfl
      | some o => exact (hnd.1 (List.mem_map.2 ⟨_, gt_mem hg, rfl⟩)).elim
     refine ⟨E', k1.weaken (fun t x hx => .inl hx) (fun n o hn' => ?_), fun k hk => ?_, fun k q y hq hy => ?_⟩
     ·simp only [AState.own?, List.map_cons, List.cons_append, gt_cons, List.set_set] at hn' ⊢
      simp only [List.append_assoc, List.cons_append, List.nil_append] at hn' ⊢
      by_cases q1 : m = n
      ·rw [if_pos q1] at hn' ⊢; exact hn'
      ·rw [if_neg q1] at hn' ⊢
       have hga : ∀ (l1 : List (Nat × Own)) (l2 : List (Nat × Option Own)), gt (l1.map (fun p => (p.1, some p.2)) ++ l2) n = match gt l1 n with | some x => some (some x) | none => gt l2 n := by
        intro l1 l2
        induction l1 with
        | nil => rfl
        | cons p l1 ih =>
         rw [List.map_cons, List.cons_append, gt_cons, gt_cons]
         by_cases hp : p.1 = n
         ·rw [if_pos hp, if_pos hp]
         ·rw [if_neg hp, if_neg hp, ih]
       rw [hga] at hn' ⊢
       by_cases q2 : nf j = n
       ·rw [if_pos q2] at hn'
        subst q2
        rw [hgn]
        simp only [gt_cons, if_true]
        exact hn'
       ·rw [if_neg q2] at hn'
        cases hg : gt os1 n with
        | some x => rw [hg] at hn'; exact hn'
        | none =>
         rw [hg] at hn'
         simp only [gt_cons, if_neg q2, if_neg q1]
         exact hn'
     ·rw [gt_cons] at hk
      by_cases q : nf j = k
      ·rw [if_pos q] at hk; cases hk
      ·rw [if_neg q] at hk
       rw [k2 k hk]; exact if_neg (Ne.symm q)
     ·cases k with
      | zero =>
       simp at hq hy; subst hq; subst hy
       have ho := k1.own (nf j) (.dvec e' z rows') (by
        simp only [AState.own?, List.cons_append, gt_cons]
        rw [if_neg (Ne.symm hne)]
        have : ∀ (l1 : List (Nat × Own)) (l2 : List (Nat × Option Own)), gt l1 (nf j) = none → gt (l1.map (fun p => (p.1, some p.2)) ++ l2) (nf j) = gt l2 (nf j) := by
         intro l1 l2
         induction l1 with
         | nil => intro _; rfl
         | cons p l1 ih =>
          intro hh
          rw [gt_cons] at hh
          rw [List.map_cons, List.cons_append, gt_cons]
          by_cases hp : p.1 = nf j
          ·rw [if_pos hp] at hh; cases hh
          ·rw [if_neg hp] at hh ⊢; exact ih hh
        rw [this os1 _ hgn]
        simp [gt_cons])
       have hE' : E' (nf j) = u := by rw [k2 _ hgn]; simp
       have := ho.dvh
       rwa [hE'] at this
      | succ k => exact k3 k q y (by simpa using hq) (by simpa using hy)
   ·cases ht
inductive GiveC (S : AState) : H → DD → Option Nat → Prop
 | d (x : D) : GiveC S (.d x) (.d x) none
 | nil (e z : Nat) : GiveC S (.d (.v (.slice none 0 0))) (.sl e z []) none
 | dv (n e z : Nat) (rows : List (List DD)) (h : S.own? n = some (.dvec e z rows)) : GiveC S (.vh n rows.length) (.sl e z rows) (some n)
 | v (n e z : Nat) (rows : List (List D)) (h : S.own? n = some (.vec e z rows)) : GiveC S (.vh n rows.length) (.sl e z (rows.map fun r => r.map .d)) (some n)
def optL : List (Option Nat) → List Nat
 | [] => []
 | some n :: r => n :: optL r
 | none :: r => optL r
def preC : H → DD → DD
 | _, .d x => .d x
 | _, _ => .junk
theorem vh_val {E : Env} {M : Mem} {n len : Nat} {v : Value} (h : HRep E M v (.vh n len)) {ad : Option Addr} {cap : Nat} (hE : E n = .slice ad len cap) : v = E n := by
 cases h with
 | vh n len l c a h hl =>
  rw [hE] at h
  cases h
  exact hE.symm
theorem Sim.giveL {m i e sz : Nat} {E : Env} : ∀ (l : List (H × DD × Option Nat)) (j : Nat) (S : AState) (rows : List (List DD)) (r pre post : List DD) (vs : List Value), Sim C E M S a w →
  S.own? m = some (.dvec e sz rows) → rows[i]? = some r → r = pre ++ (l.map fun p => preC p.1 p.2.1) ++ post → pre.length = j → (∀ p ∈ l, GiveC S p.1 p.2.1 p.2.2) → (optL (l.map fun p => p.2.2)).Nodup → m ∉ optL (l.map fun p => p.2.2) →
  vs.length = l.length → (∀ (k : Nat) v, vs[k]? = some v → valAt w (E m) (i * sz + (j + k)) v) → (∀ (k : Nat) v p, vs[k]? = some v → l[k]? = some p → HRep E M v p.1) →
  Sim C E M { S with own := (m, some (.dvec e sz (rows.set i (pre ++ (l.map fun p => p.2.1) ++ post)))) :: ((optL (l.map fun p => p.2.2)).map fun n => (n, none)) ++ S.own } a w
 | [], j, S, rows, r, pre, post, vs, h, hm, hr, hrr, hpl, _, _, _, _, _, _ => by
  refine h.weaken (fun t x hx => .inl hx) (fun n o hn => ?_)
  simp only [List.map_nil, optL, List.nil_append, List.append_nil, List.cons_append, AState.own?, gt_cons] at hn
  by_cases hnm : m = n
  ·rw [if_pos hnm] at hn
   subst hnm
   simp at hn; subst hn
   have : rows.set i (pre ++ post) = rows := by
    simp at hrr
    rw [← hrr]
    apply List.ext_getElem?
    intro q
    rw [List.getElem?_set]
    split
    ·rename_i hq; subst hq; split
     ·exact hr.symm
     ·rename_i hq; rw [List.getElem?_eq_none (by omega)] at hr; cases hr
    ·rfl
   rw [this]; exact hm
  ·rw [if_neg hnm] at hn; exact hn
 | (x, c, on) :: l, j, S, rows, r, pre, post, vs, h, hm, hr, hrr, hpl, hgc, hnd, hmn, hvl, hva, hrep => by
  cases vs with
  | nil => simp at hvl
  | cons v vs =>
   have hil : i < rows.length := (List.getElem?_eq_some_iff.1 hr).1
   have hx := hrep 0 v _ rfl rfl
   have hv := hva 0 v rfl
   rw [Nat.add_zero] at hv
   have hrj : r[j]? = some (preC x c) := by rw [hrr, ← hpl]; simp
   have g0 := hgc (x, c, on) List.mem_cons_self
   have step : ∀ (S' : AState) (r' : List DD), Sim C E M S' a w → S'.own? m = some (.dvec e sz (rows.set i r')) → r' = (pre ++ [c]) ++ (l.map fun p => preC p.1 p.2.1) ++ post → (∀ p ∈ l, GiveC S' p.1 p.2.1 p.2.2) →
     (optL (l.map fun p => p.2.2)).Nodup → m ∉ optL (l.map fun p => p.2.2) → S'.tmps = S.tmps → (∀ n o, n ≠ m → n ∉ optL (((x, c, on) :: l).map fun p => p.2.2) → S.own? n = some o → S'.own? n = some o) → (∀ n o, n ≠ m → S'.own? n = some o → S.own? n = some o) →
     Sim C E M { S with own := (m, some (.dvec e sz (rows.set i (pre ++ (((x, c, on) :: l).map fun p => p.2.1) ++ post)))) :: ((optL (((x, c, on) :: l).map fun p => p.2.2)).map fun n => (n, none)) ++ S.own } a w := by
    intro S' r' hs' hm' hrr' hgc' hnd' hmn' ht' ho' ho2
    have hr' : (rows.set i r')[i]? = some r' := by simp [hil]
    have k1 := Sim.giveL l (j + 1) S' (rows.set i r') r' (pre ++ [c]) post vs hs' hm' hr' hrr' (by simp [hpl]) hgc' hnd' hmn' (by simpa using hvl)
     (fun k u hu => by have := hva (k + 1) u (by simpa using hu); rwa [show j + 1 + k = j + (k + 1) by omega]) (fun k u p hu hp => hrep (k + 1) u p (by simpa using hu) (by simpa using hp))
    have hgn : ∀ (l1 : List Nat) (l2 : List (Nat × Option Own)) (n : Nat), gt ((l1.map fun n => (n, (none : Option Own))) ++ l2) n = if n ∈ l1 then some none else gt l2 n := by
     intro l1 l2 n
     induction l1 with
     | nil => simp
     | cons k l1 ih =>
      rw [List.map_cons, List.cons_append, gt_cons, ih]
      by_cases hk : k = n
      ·subst hk; simp
      ·rw [if_neg hk]
       by_cases hq : n ∈ l1
       ·rw [if_pos hq, if_pos (List.mem_cons_of_mem _ hq)]
       ·rw [if_neg hq, if_neg (by
         intro q
         rcases List.mem_cons.1 q with q | q
         ·exact hk q.symm
         ·exact hq q)]
    refine k1.weaken (fun t y hy => .inl (by rw [ht']; exact hy)) (fun n o hn => ?_)
    simp only [AState.own?, List.cons_append, gt_cons, List.set_set, hgn] at hn ⊢
    by_cases q1 : m = n
    ·rw [if_pos q1] at hn ⊢
     simpa using hn
    ·rw [if_neg q1] at hn ⊢
     by_cases q2 : n ∈ optL (((x, c, on) :: l).map fun p => p.2.2)
     ·rw [if_pos q2] at hn; cases hn
     ·rw [if_neg q2] at hn
      have q3 : n ∉ optL (l.map fun p => p.2.2) := fun hq => q2 (by
       cases on with
       | none => exact hq
       | some n' => exact List.mem_cons_of_mem _ hq)
      rw [if_neg q3]
      exact ho' n o (Ne.symm q1) q2 hn
   have dv : ∀ (n e' z : Nat) (rows' : List (List DD)) (S1 : AState), Sim C E M S1 a w → S1.tmps = S.tmps → (∀ k, k ≠ n → S1.own? k = S.own? k) → S1.own? n = some (.dvec e' z rows') → on = some n → c = .sl e' z rows' → x = .vh n rows'.length →
     Sim C E M { S with own := (m, some (.dvec e sz (rows.set i (pre ++ (((x, c, on) :: l).map fun p => p.2.1) ++ post)))) :: ((optL (((x, c, on) :: l).map fun p => p.2.2)).map fun n => (n, none)) ++ S.own } a w := by
    intro n e' z rows' S1 hs1 ht1 ho1 hn hon hc hxv
    subst hon; subst hc; subst hxv
    rw [List.map_cons, optL, List.nodup_cons] at hnd
    rw [List.map_cons, optL] at hmn
    have hne : n ≠ m := fun q => hmn (q ▸ List.mem_cons_self)
    have hm1 : S1.own? m = some (.dvec e sz rows) := by rw [ho1 m (Ne.symm hne)]; exact hm
    obtain ⟨ad, cap, hEn⟩ := (hs1.own n _ hn).dlen
    have hvE := vh_val hx hEn
    subst hvE
    have k1 := hs1.give1 hm1 hn hne hr hrj hv
    refine step _ (r.set j (.sl e' z rows')) k1 ?_ (by rw [hrr, ← hpl]; simp) (fun p hp => ?_) hnd.2 (fun q => hmn (List.mem_cons_of_mem _ q)) ht1 (fun k o k1 k2 hk => ?_) (fun k o k1 hk => ?_)
    ·simp only [AState.own?, gt_cons]; rw [if_neg hne]; simp
    ·have q := hgc p (List.mem_cons_of_mem _ hp)
     have hpn : ∀ k, p.2.2 = some k → k ≠ n ∧ k ≠ m := fun k hk => by
      have hmem : ∀ l' : List (H × DD × Option Nat), p ∈ l' → k ∈ optL (l'.map fun p => p.2.2) := by
       intro l'
       induction l' with
       | nil => intro h; cases h
       | cons y l' ih =>
        intro h
        rcases List.mem_cons.1 h with h | h
        ·subst h; rw [List.map_cons, hk]; exact List.mem_cons_self
        ·rw [List.map_cons]
         cases y.2.2 with
         | none => exact ih h
         | some _ => exact List.mem_cons_of_mem _ (ih h)
      have := hmem l hp
      exact ⟨fun e => hnd.1 (e ▸ this), fun e => hmn (List.mem_cons_of_mem _ (e ▸ this))⟩
     obtain ⟨p1, p2, p3⟩ := p
     have look : ∀ k o, k ≠ n → k ≠ m → S.own? k = some o → ({ S1 with own := (n, none) :: (m, some (.dvec e sz (rows.set i (r.set j (.sl e' z rows'))))) :: S1.own } : AState).own? k = some o := by
      intro k o k1 k2 hk
      have := ho1 k k1
      simp only [AState.own?, gt_cons] at this hk ⊢
      rw [if_neg (Ne.symm k1), if_neg (Ne.symm k2), this]; exact hk
     cases q with
     | d x => exact .d x
     | nil e z => exact .nil e z
     | dv k e z rows hk => exact .dv k e z rows (look k _ (hpn k rfl).1 (hpn k rfl).2 hk)
     | v k e z rows hk => exact .v k e z rows (look k _ (hpn k rfl).1 (hpn k rfl).2 hk)
    ·have hkn : k ≠ n := fun e => k2 (by rw [List.map_cons, optL, e]; exact List.mem_cons_self)
     have := ho1 k hkn
     simp only [AState.own?, gt_cons] at this hk ⊢
     rw [if_neg (Ne.symm hkn), if_neg (Ne.symm k1), this]; exact hk
    ·simp only [AState.own?, gt_cons] at hk
     by_cases q : n = k
     ·rw [if_pos q] at hk; simp at hk
     ·rw [if_neg q, if_neg (Ne.symm k1)] at hk
      rw [← ho1 k (Ne.symm q)]; exact hk
   generalize hxc : x = x0 at g0
   generalize hcc : c = c0 at g0
   generalize hoo : on = on0 at g0
   cases g0 with
   | d y =>
    subst hxc; subst hcc; subst hoo
    have hid : rows.set i r = rows := by
     apply List.ext_getElem?
     intro q
     rw [List.getElem?_set]
     split
     ·rename_i hq; subst hq; first | exact hr.symm | (rw [if_pos hil]; exact hr.symm)
     ·rfl
    exact step S r h (by rw [hid]; exact hm) (by rw [hrr]; simp [preC]) (fun p hp => hgc p (List.mem_cons_of_mem _ hp)) (by simpa [optL] using hnd) (by simpa [optL] using hmn) rfl (fun _ _ _ _ hk => hk) fun _ _ _ hk => hk
   | nil e' z =>
    subst hxc; subst hcc; subst hoo
    have hv0 : v = .slice none 0 0 := hx.dv
    subst hv0
    have k1 := h.give0 (e' := e') (z := z) hm hr hrj hv
    refine step _ (r.set j (.sl e' z [])) k1 (by simp only [AState.own?, gt_cons]; simp) (by rw [hrr, ← hpl]; simp) (fun p hp => ?_) (by simpa [optL] using hnd) (by simpa [optL] using hmn) rfl (fun k o k1 _ hk => ?_) (fun k o k1 hk => ?_)
    ·have q := hgc p (List.mem_cons_of_mem _ hp)
     have hpn : ∀ k, p.2.2 = some k → k ≠ m := fun k hk => by
      have hmem : ∀ l' : List (H × DD × Option Nat), p ∈ l' → k ∈ optL (l'.map fun p => p.2.2) := by
       intro l'
       induction l' with
       | nil => intro h; cases h
       | cons y l' ih =>
        intro h
        rcases List.mem_cons.1 h with h | h
        ·subst h; rw [List.map_cons, hk]; exact List.mem_cons_self
        ·rw [List.map_cons]
         cases y.2.2 with
         | none => exact ih h
         | some _ => exact List.mem_cons_of_mem _ (ih h)
      have := hmem l hp
      exact fun e => hmn (e ▸ this)
     obtain ⟨p1, p2, p3⟩ := p
     have look : ∀ k o, k ≠ m → S.own? k = some o → ({ S with own := (m, some (.dvec e sz (rows.set i (r.set j (.sl e' z []))))) :: S.own } : AState).own? k = some o := by
      intro k o k2 hk
      simp only [AState.own?, gt_cons] at hk ⊢
      rw [if_neg (Ne.symm k2)]; exact hk
     cases q with
     | d x => exact .d x
     | nil e z => exact .nil e z
     | dv k e z rows hk => exact .dv k e z rows (look k _ (hpn k rfl) hk)
     | v k e z rows hk => exact .v k e z rows (look k _ (hpn k rfl) hk)
    ·simp only [AState.own?, gt_cons] at hk ⊢
     rw [if_neg (Ne.symm k1)]; exact hk
    ·simp only [AState.own?, gt_cons] at hk ⊢
     rw [if_neg (Ne.symm k1)] at hk; exact hk
   | dv n e' z rows' hn => subst hxc; subst hcc; subst hoo; exact dv n e' z rows' S h rfl (fun _ _ => rfl) hn rfl rfl rfl
   | v n e' z rows' hn =>
    subst hxc; subst hcc; subst hoo
    have hs1 : Sim C E M { S with own := (n, some (.dvec e' z (rows'.map fun r => r.map .d))) :: S.own } a w := by
     have hk : ∀ k o, ({ S with own := (n, some (.dvec e' z (rows'.map fun r => r.map DD.d))) :: S.own } : AState).own? k = some o → k = n ∧ o = .dvec e' z (rows'.map fun r => r.map .d) ∨ k ≠ n ∧ S.own? k = some o := by
      intro k o hk
      simp only [AState.own?, gt_cons] at hk
      by_cases h1 : n = k
      ·rw [if_pos h1] at hk; simp at hk; exact .inl ⟨h1.symm, hk.symm⟩
      ·rw [if_neg h1] at hk; exact .inr ⟨Ne.symm h1, hk⟩
     obtain ⟨v1, v2⟩ := v2d (h.own n _ hn)
     have low : ∀ k o b, ({ S with own := (n, some (.dvec e' z (rows'.map fun r => r.map DD.d))) :: S.own } : AState).own? k = some o → o.foot w (E k) b → ∃ o0, S.own? k = some o0 ∧ o0.foot w (E k) b := by
      intro k o b hko hb
      rcases hk k o hko with ⟨rfl, rfl⟩ | ⟨_, q⟩
      ·exact ⟨_, hn, (v2 b).1 hb⟩
      ·exact ⟨o, q, hb⟩
     refine h.regroup (fun t y hy => ⟨y, hy, fun u hu => hu⟩) (fun k o hko => ?_) (fun k k' o o' b hkk hko hko' hb hb' => ?_) (fun k o b hko hb => ?_) fun k hk => rfl
     ·rcases hk k o hko with ⟨rfl, rfl⟩ | ⟨_, q⟩
      ·exact v1
      ·exact h.own k o q
     ·obtain ⟨o1, a1, a2⟩ := low k o b hko hb
      obtain ⟨o2, b1, b2⟩ := low k' o' b hko' hb'
      exact h.apart k k' o1 o2 b hkk a1 b1 a2 b2
     ·obtain ⟨o1, a1, a2⟩ := low k o b hko hb
      exact ⟨k, o1, a1, a2⟩
    exact dv n e' z (rows'.map fun r => r.map .d) _ hs1 rfl (fun k hk => by simp only [AState.own?, gt_cons]; rw [if_neg (Ne.symm hk)]) (by simp only [AState.own?, gt_cons]; simp) rfl rfl (by rw [List.length_map])
end
end Go.Awp
end
section
namespace Go.Awp
variable [Inhabited GMem]
theorem getElem?_splice' {α : Type} (l new : List α) (off n i : Nat) (hn : new.length = n) (hle : off + n ≤ l.length) : (l.take off ++ new ++ l.drop (off + n))[i]? = if i < off then l[i]? else if i < off + n then new[i - off]? else l[i]? := by
 subst hn; exact getElem?_splice l new off i hle
theorem getElem?_splice'' {α : Type} (a new b : List α) (i : Nat) : (a ++ new ++ b)[i]? = if i < a.length then a[i]? else if i < a.length + new.length then new[i - a.length]? else b[i - (a.length + new.length)]? := by
 by_cases h1 : i < a.length
 ·rw [if_pos h1, List.append_assoc, List.getElem?_append_left h1]
 ·rw [if_neg h1]
  by_cases h2 : i < a.length + new.length
  ·rw [if_pos h2, List.append_assoc, List.getElem?_append_right (by omega), List.getElem?_append_left (by omega)]
  ·rw [if_neg h2, List.getElem?_append_right (by simp; omega)]
   simp
theorem DDReps.split {M : Mem} {w : World} : ∀ {ds1 ds2 : List DD} {vs : List Value} {B : List Nat}, DDReps M w vs (ds1 ++ ds2) B → ∃ B1 B2, DDReps M w (vs.take ds1.length) ds1 B1 ∧ DDReps M w (vs.drop ds1.length) ds2 B2 ∧ B = B1 ++ B2
 | [], ds2, vs, B, h => ⟨[], B, by simpa using DDReps.nil, by simpa using h, rfl⟩
 | x :: ds1, ds2, vs, B, h => by
  rw [List.cons_append] at h
  cases h with
  | d h r =>
   obtain ⟨B1, B2, h1, h2, rfl⟩ := DDReps.split r
   exact ⟨B1, B2, .d h h1, h2, rfl⟩
  | junk r =>
   obtain ⟨B1, B2, h1, h2, rfl⟩ := DDReps.split r
   exact ⟨B1, B2, .junk h1, h2, rfl⟩
  | mt r =>
   obtain ⟨B1, B2, h1, h2, rfl⟩ := DDReps.split r
   exact ⟨B1, B2, .mt h1, h2, rfl⟩
  | sl hn ho hz h r =>
   obtain ⟨B1, B2, h1, h2, rfl⟩ := DDReps.split r
   exact ⟨_ :: (_ ++ B1), B2, .sl hn ho hz h h1, h2, by simp⟩
theorem DDReps.pre {E : Env} {M : Mem} {w : World} {S : AState} : ∀ {l : List (H × DD × Option Nat)} {vs : List Value}, vs.length = l.length → (∀ p ∈ l, GiveC S p.1 p.2.1 p.2.2) → (∀ (k : Nat) v p, vs[k]? = some v → l[k]? = some p → HRep E M v p.1) →
  DDReps M w vs (l.map fun p => preC p.1 p.2.1) []
 | [], [], _, _, _ => .nil
 | [], _ :: _, h, _, _ => by simp at h
 | _ :: _, [], h, _, _ => by simp at h
 | (x, c, on) :: l, v :: vs, hl, hg, hr => by
  have ih := DDReps.pre (w := w) (l := l) (vs := vs) (by simpa using hl) (fun p hp => hg p (List.mem_cons_of_mem _ hp)) fun k u p h1 h2 => hr (k + 1) u p (by simpa using h1) (by simpa using h2)
  have h0 := hr 0 v _ rfl rfl
  have g0 := hg _ List.mem_cons_self
  rw [List.map_cons]
  cases g0 with
  | d x => exact .d h0.toD ih
  | nil => exact .junk ih
  | dv => exact .junk ih
  | v => exact .junk ih
def DD.one : DD → Bool
 | .d x => x.one
 | .sl _ _ _ => true
 | .junk => false
theorem DDReps.allOne {M : Mem} {w : World} {vs : List Value} {ds : List DD} {B : List Nat} (h : DDReps M w vs ds B) (h1 : ds.all DD.one = true) : ∀ u ∈ vs, u.oneCell' = true := by
 induction h with
 | nil => intro u hu; cases hu
 | @d v x vs ds B h _ ih =>
  simp only [List.all_cons, Bool.and_eq_true] at h1
  intro u hu
  rcases List.mem_cons.1 hu with rfl | hu
  ·exact (HRep.d (E := fun _ => undef) h).one (by simpa [H.one, DD.one] using h1.1)
  ·exact ih h1.2 u hu
 | junk _ _ => simp [DD.one] at h1
 | mt _ ih =>
  simp only [List.all_cons, Bool.and_eq_true] at h1
  intro u hu
  rcases List.mem_cons.1 hu with rfl | hu
  ·rfl
  ·exact ih h1.2 u hu
 | sl _ _ _ _ _ _ ih =>
  simp only [List.all_cons, Bool.and_eq_true] at h1
  intro u hu
  rcases List.mem_cons.1 hu with rfl | hu
  ·rfl
  ·exact ih h1.2 u hu
section
variable {C : Ctx} {E : Env} {M : Mem} {S : AState} {a : Act} {w : World} {nm : Nat → Nat} {o : Oper} {K : Act → World → Prop} {Q : Exit → Act → World → Prop} (hd : ∀ d, o.dst = some d → C.wr d)
include hd
theorem wp_loadD {t : TypeId} {x : Operand} {m i s off e sz : Nat} {ag : Bool} {rows : List (List DD)} {r pre l post : List DD} {nf : Nat → Nat} {hh : List H} {os : List (Nat × Own)} {ds : List DD} {val : H} (ho : o.op = .load t x) (hs : Sim C E M S a w)
  (ht : tyLoad C.P t = some (ag, sz)) (hx : Go.Awp.ev S x = .ep m s i off) (hm : S.own? m = some (.dvec e s rows)) (hr : rows[i]? = some r) (hrr : r = pre ++ l ++ post) (hpl : pre.length = off)
  (hll : ag = true ∧ l.length = sz ∧ val = mkAgg hh ∨ ag = false ∧ ∃ h0, hh = [h0] ∧ val = h0) (htk : takeC nf off l = some (hh, os, ds)) (hf : ∀ p ∈ os, S.fresh p.1 = true ∧ p.1 < given) (hnd : (os.map (·.1)).Nodup)
  (hK : ∀ E' a', Sim C E' M { tmps := putT o.dst val S.tmps, own := (m, some (.dvec e s (rows.set i (pre ++ ds ++ post)))) :: os.map (fun p => (p.1, some p.2)) ++ S.own } a' w → K a' w) : o.wp C.P a w K Q := by
 have hxr := hs.ev x
 rw [hx] at hxr
 generalize hq : a.eval x = q at hxr
 cases hxr with
 | ep m s i off g l0 cap hE hi =>
  rcases (hs.own m _ hm).dview with ⟨hE2, _⟩ | ⟨g0, cap0, xs, B, hE2, ho1, hz, hD, _⟩
  ·rw [hE] at hE2; cases hE2
  rw [hE] at hE2; cases hE2
  have hrl := hz r (List.mem_of_getElem? hr)
  have hir : i < rows.length := (List.getElem?_eq_some_iff.1 hr).1
  have hmul : (i + 1) * s ≤ rows.length * s := Nat.mul_le_mul_right _ hir
  rw [Nat.succ_mul] at hmul
  have hfit : off + l.length ≤ s := by rw [← hrl, hrr, ← hpl]; simp
  have hxl := ho1.1
  have hvl : ((xs.drop (i * s + off)).take l.length).length = l.length := by simp; omega
  have hcell : ∀ (k : Nat) v, ((xs.drop (i * s + off)).take l.length)[k]? = some v → w.cell? ⟨g, i * s + (off + k), none⟩ = some v := by
   intro k v hv
   rw [List.getElem?_take] at hv
   split at hv
   ·rw [List.getElem?_drop] at hv
    rw [ho1.cellAt _ (by omega), ← Nat.add_assoc]; exact hv
   ·cases hv
  have hrun := run_load (P := C.P) (w := w) ht (b := g) (off := i * s + off) (cs := (xs.drop (i * s + off)).take l.length) (fun j v hv => by rw [Nat.add_assoc]; exact hcell j v hv)
  have hlr : ∀ k, k < l.length → r[off + k]? = l[k]? := by
   intro k hk
   rw [hrr, ← hpl, List.append_assoc, List.getElem?_append_right (by omega), List.getElem?_append_left (by omega)]
   congr 1; omega
  obtain ⟨E', k1, k2, k3⟩ := Sim.takeL l off E S rows r pre post hh os ds _ hs hm hr hrr hpl htk hf hnd hvl (fun k v hv g' l' c' hg => by rw [hE] at hg; cases hg; exact hcell k v hv)
   (fun k v y hv hy => by
     have hk : k < l.length := (List.getElem?_eq_some_iff.1 hy).1
     refine hD.getD (q := i * s + (off + k)) ?_ ?_
     ·rw [List.getElem?_take, if_pos hk, List.getElem?_drop, Nat.add_assoc] at hv; exact hv
     ·rw [flat_get hz hr (by omega), hlr k hk]; exact hy) (by rw [hE]; intro q; cases q)
  obtain ⟨hl1, hl2⟩ := takeC_len htk
  rcases hll with ⟨rfl, h1, rfl⟩ | ⟨rfl, h0, rfl, rfl⟩
  ·refine wp_value (exec_load ho hq (hrun.1 rfl (by rw [hvl]; exact h1))) ?_
   refine hK E' _ (k1.put o.dst hd (HRep.mk_agg (by simp; omega) fun k v y hv hy => k3 k v y (by simpa using hv) hy))
  ·have hl : l.length = 1 := by simpa using hl1.symm
   have hsome : ∃ v, ((xs.drop (i * s + off)).take l.length)[0]? = some v := ⟨_, List.getElem?_eq_getElem (by omega)⟩
   obtain ⟨v, hv⟩ := hsome
   refine wp_value (exec_load ho hq (hrun.2 rfl v hv)) ?_
   exact hK E' _ (k1.put o.dst hd (k3 0 v _ hv rfl))
theorem wp_storeD {t : TypeId} {x y : Operand} {m i s e : Nat} {ag : Bool} {rows : List (List DD)} {r : List DD} {l : List (H × DD × Option Nat)} (ho : o.op = .store t x y) (hs : Sim C E M S a w)
  (ht : tyLoad C.P t = some (ag, s)) (hx : Go.Awp.ev S x = .ep m s i 0) (hm : S.own? m = some (.dvec e s rows)) (hr : rows[i]? = some r) (hc : (Go.Awp.ev S y).cells = some (l.map fun p => p.1)) (hl : l.length = s)
  (hone : (l.map fun p => p.1).all H.one = true) (hg : ∀ p ∈ l, GiveC S p.1 p.2.1 p.2.2) (hnd : (optL (l.map fun p => p.2.2)).Nodup) (hmn : m ∉ optL (l.map fun p => p.2.2))
  (hK : ∀ a' w', Sim C E M { tmps := putT o.dst .junk S.tmps, own := (m, some (.dvec e s (rows.set i (l.map fun p => p.2.1)))) :: ((optL (l.map fun p => p.2.2)).map fun n => (n, none)) ++ S.own } a' w' → K a' w') : o.wp C.P a w K Q := by
 have hxr := hs.ev x
 have hyr := hs.ev y
 rw [hx] at hxr
 obtain ⟨hysz, hycell⟩ := hyr.cells hc
 generalize hq : a.eval x = q at hxr
 cases hxr with
 | ep m s i off g l0 cap hE hi =>
  rcases (hs.own m _ hm).dview with ⟨hE2, _⟩ | ⟨g0, cap0, xs, B, hE2, ho1, hz, hD, hnB, hMB, hft⟩
  ·rw [hE] at hE2; cases hE2
  rw [hE] at hE2; cases hE2
  have hrl := hz r (List.mem_of_getElem? hr)
  have hir : i < rows.length := (List.getElem?_eq_some_iff.1 hr).1
  have hmul : (i + 1) * s ≤ rows.length * s := Nat.mul_le_mul_right _ hir
  rw [Nat.succ_mul] at hmul
  rcases ho1.2 with ⟨hn, _⟩ | ⟨g2, cap2, cur, hv2, hbg, hgw, hnc, hcm, hcs', htake⟩
  ·cases hn
  cases hv2
  have hmul2 : rows.length * s ≤ cap * s := Nat.mul_le_mul_right _ hnc
  have hvl : (a.eval y).cells.toList.length = s := by simp at hysz ⊢; omega
  have hone' : ∀ u ∈ (a.eval y).cells.toList, u.oneCell' = true := by
   intro u hu
   obtain ⟨j, hj⟩ := List.mem_iff_getElem?.1 hu
   have hj' : (a.eval y).cells[j]? = some u := by simpa using hj
   have hlt : j < (l.map fun p => p.1).length := by
    have := (Array.getElem?_eq_some_iff.1 hj').1; omega
   exact (hycell j u _ hj' (List.getElem?_eq_getElem hlt)).one (all_one_get hone (List.getElem?_eq_getElem hlt))
  have hrun := run_store_row ht hgw (v := a.eval y) (off := i * s + 0) (by simpa using hvl) (by omega) hone'
  refine wp_skip' (exec_store ho hq hrun) ?_
  let vals := (a.eval y).cells.toList
  let w' := w.setRow g (cur.toList.take (i * s + 0) ++ vals ++ cur.toList.drop (i * s + 0 + s)).toArray
  have hlp : ∀ (k : Nat) v p, vals[k]? = some v → l[k]? = some p → HRep E M v p.1 := fun k v p hv hp => hycell k v p.1 (by simpa [vals] using hv) (by rw [List.getElem?_map, hp]; rfl)
  have hsp : (cur.toList.take (i * s + 0) ++ vals ++ cur.toList.drop (i * s + 0 + s)).length = cur.size := by
   simp only [List.length_append, List.length_take, List.length_drop, Array.length_toList, vals, hvl]; omega
  have hsplit : rows = rows.take i ++ r :: rows.drop (i + 1) := by
   have h0 : rows[i] = r := by
    have := List.getElem?_eq_getElem hir
    rw [this] at hr; exact Option.some.inj hr
   rw [← h0, List.getElem_cons_drop, List.take_append_drop]
  have hT : (rows.take i).length = i := by rw [List.length_take]; omega
  have hzT : ∀ r' ∈ rows.take i, r'.length = s := fun r' h => hz r' (List.mem_of_mem_take h)
  have hfl : (rows.take i).flatten.length = i * s := by rw [flat_len hzT, hT]
  rw [hsplit, List.flatten_append, List.flatten_cons] at hD
  obtain ⟨B1, B2, d1, d2, hB⟩ := hD.split
  obtain ⟨B3, B4, d3, d4, hB2⟩ := d2.split
  subst hB2; subst hB
  rw [hfl] at d1 d2 d3 d4
  have hgB : g ∉ B1 ++ (B3 ++ B4) := (List.nodup_cons.1 hnB).1
  have hkeep : ∀ b, b ∈ B1 ++ (B3 ++ B4) → w'.heap[b]? = w.heap[b]? := fun b hb => by
   have hne : b ≠ g := fun e => hgB (e ▸ hb)
   exact (grownBy_setRow w g _).block b (hs.block_lt hm ((hft b).2 (List.mem_cons_of_mem _ hb))) (by simpa using hne)
  have e1 := d1.keep (w' := w') (Mem.le_refl M) fun b hb => hkeep b (List.mem_append.2 (.inl hb))
  have e4 := d4.keep (w' := w') (Mem.le_refl M) fun b hb => hkeep b (List.mem_append.2 (.inr (List.mem_append.2 (.inr hb))))
  have e3 : DDReps M w' vals (l.map fun p => preC p.1 p.2.1) [] := DDReps.pre (S := S) (E := E) (by simp only [vals]; rw [hvl, hl]) hg hlp
  have hNew : DDReps M w' ((xs.take (i * s)) ++ (vals ++ (xs.drop (i * s)).drop r.length)) ((rows.take i).flatten ++ ((l.map fun p => preC p.1 p.2.1) ++ (rows.drop (i + 1)).flatten)) (B1 ++ ([] ++ B4)) := e1.app (e3.app e4)
  have hrow : rows.set i (l.map fun p => preC p.1 p.2.1) = rows.take i ++ (l.map fun p => preC p.1 p.2.1) :: rows.drop (i + 1) := by
   rw [List.set_eq_take_append_cons_drop, if_pos hir]
  have hlen : (rows.set i (l.map fun p => preC p.1 p.2.1)).length = rows.length := List.length_set
  have hxs' : (cur.toList.take (i * s + 0) ++ vals ++ cur.toList.drop (i * s + 0 + s)).take (rows.length * s) = (xs.take (i * s)) ++ (vals ++ (xs.drop (i * s)).drop r.length) := by
   rw [← htake, hrl, Nat.add_zero]
   apply List.ext_getElem?
   intro k
   have hv' : vals.length = s := hvl
   rw [List.getElem?_take, getElem?_splice' cur.toList vals (i * s) s k hv' (by simp; omega)]
   rw [← List.append_assoc, ← hv', getElem?_splice'' ((cur.toList.take (rows.length * vals.length)).take (i * vals.length)) vals _ k]
   ·simp only [List.length_take, Array.length_toList, List.getElem?_take, List.getElem?_drop, hv']
    have hm0 : min (i * s) (min (rows.length * s) cur.size) = i * s := by omega
    rw [hm0]
    have hm1 : i * s ≤ rows.length * s := by omega
    by_cases h1 : k < i * s
    ·simp [h1, show k < rows.length * s by omega]
    ·by_cases h2 : k < i * s + s
     ·simp [h1, h2, show k < rows.length * s by omega]
     ·have he : i * s + (s + (k - (i * s + s))) = k := by omega
      simp only [he, if_neg h1, if_neg h2]
  have hgr : w.grownBy w' (blockOf (E m)) := by rw [hE]; exact grownBy_setRow w g _
  have hrows' : ∀ r' ∈ rows.set i (l.map fun p => preC p.1 p.2.1), r'.length = s := fun r' hr' => by
   rcases List.mem_or_eq_of_mem_set hr' with q | q
   ·exact hz r' q
   ·subst q; rw [List.length_map]; exact hl
  obtain ⟨okm, ftm⟩ := OwnOk.dmk (E := E) (M := M) (w := w') (m := m) (e := e) (sz := s) (g := g) (cap := cap) (xs := (xs.take (i * s)) ++ (vals ++ (xs.drop (i * s)).drop r.length)) (rows := rows.set i (l.map fun p => preC p.1 p.2.1)) (B := B1 ++ ([] ++ B4)) (by rw [hlen]; exact hE)
   (by
     rw [hlen]
     refine ⟨?_, .inr ⟨g, cap, _, rfl, hbg, setRow_heap w g cur _ e _ hgw, hnc, hcm, by rw [List.size_toArray, hsp]; exact hcs', by simpa using hxs'⟩⟩
     rw [← hxs', List.length_take, hsp]; omega) hrows' (by
     rw [hrow, List.flatten_append, List.flatten_cons]; exact hNew)
   (by
     refine hnB.sublist ?_
     refine List.Sublist.cons_cons g ((List.Sublist.refl B1).append ?_)
     rw [List.nil_append]; exact List.sublist_append_right B3 B4)
   (fun b hb => hMB b (by
     rcases List.mem_cons.1 hb with q | q
     ·exact q ▸ List.mem_cons_self
     ·refine List.mem_cons_of_mem _ ?_
      rcases List.mem_append.1 q with q | q
      ·exact List.mem_append.2 (.inl q)
      ·exact List.mem_append.2 (.inr (List.mem_append.2 (.inr (by simpa using q))))))
  have hmv := hs.own_step (E' := E) (n := m) (d := m) (o' := .dvec e s (rows.set i (l.map fun p => preC p.1 p.2.1))) hm (w' := w') hgr (fun _ _ => rfl) (.inl ⟨rfl, rfl⟩)
   (fun b hb => .inl ((hft b).2 (by
     rcases List.mem_cons.1 ((ftm b).1 hb) with q | q
     ·exact q ▸ List.mem_cons_self
     ·refine List.mem_cons_of_mem _ ?_
      rcases List.mem_append.1 q with q | q
      ·exact List.mem_append.2 (.inl q)
      ·exact List.mem_append.2 (.inr (List.mem_append.2 (.inr (by simpa using q))))))) (fun b hb => by
     have := (Array.getElem?_eq_some_iff.1 hgw).1
     rw [hE] at hb; simp [blockOf] at hb; subst hb
     simpa [w', World.setRow, hgw] using this) okm
  have hlk : ∀ k o', k ≠ m → (({ S with own := (m, some (.dvec e s (rows.set i (l.map fun p => preC p.1 p.2.1)))) :: (m, none) :: S.own } : AState).own? k = some o' ↔ S.own? k = some o') := by
   intro k o' hk
   simp only [AState.own?, gt_cons]
   rw [if_neg (Ne.symm hk), if_neg (Ne.symm hk)]
  have hnn : ∀ k, some k ∈ (l.map fun p => p.2.2) → k ≠ m := by
   intro k hk
   have : ∀ l' : List (Option Nat), some k ∈ l' → k ∈ optL l' := by
    intro l'
    induction l' with
    | nil => intro h; cases h
    | cons y l' ih =>
     intro h
     rcases List.mem_cons.1 h with h1 | h1
     ·subst h1; exact List.mem_cons_self
     ·cases y with
      | none => exact ih h1
      | some _ => exact List.mem_cons_of_mem _ (ih h1)
   exact fun e => hmn (e ▸ this _ hk)
  have k1 := Sim.giveL (e := e) (sz := s) l 0 ({ S with own := (m, some (.dvec e s (rows.set i (l.map fun p => preC p.1 p.2.1)))) :: (m, none) :: S.own }) (rows.set i (l.map fun p => preC p.1 p.2.1)) (l.map fun p => preC p.1 p.2.1) [] [] vals hmv (by show (gt (_ :: _) m).getD none = _; rw [gt_cons, if_pos rfl]; rfl) (by rw [List.getElem?_set_self hir]) (by rw [List.nil_append, List.append_nil]) rfl
   (fun p hp => by
     have g0 := hg p hp
     have hpm : ∀ k, p.2.2 = some k → k ≠ m := fun k hk => hnn k (by rw [← hk]; exact List.mem_map_of_mem hp)
     obtain ⟨p1, p2, p3⟩ := p
     cases g0 with
     | d x => exact .d x
     | nil e z => exact .nil e z
     | dv k e z rows hk => exact .dv k e z rows ((hlk k _ (hpm k rfl)).2 hk)
     | v k e z rows hk => exact .v k e z rows ((hlk k _ (hpm k rfl)).2 hk)) hnd hmn (by simp only [vals]; rw [hvl, hl])
   (fun k v hv g' l' c' hg' => by
     rw [hE] at hg'; cases hg'
     have hk : k < s := by have := (List.getElem?_eq_some_iff.1 hv).1; simp only [vals] at this; omega
     rw [cell_of_row w' g (i * s + (0 + k)) _ e (0, 0) (setRow_heap w g cur _ e _ hgw)]
     have hv' : vals.length = s := hvl
     have := getElem?_splice' cur.toList vals (i * s) s (i * s + (0 + k)) hv' (by simp; omega)
     rw [List.getElem?_toArray, Nat.add_zero, this, if_neg (by omega), if_pos (by omega)]
     have : i * s + (0 + k) - i * s = k := by omega
     rw [this]; exact hv) hlp
  have hp := k1.put o.dst hd (HRep.junk undef)
  refine hK _ _ (hp.weaken (fun t x hx => .inl hx) (fun k o' hk => ?_))
  simp only [AState.own?, List.cons_append, List.append_assoc, gt_cons, List.set_set, List.nil_append, List.append_nil] at hk ⊢
  by_cases q1 : m = k
  ·rw [if_pos q1] at hk ⊢; exact hk
  ·rw [if_neg q1] at hk ⊢
   have hgn : ∀ (l1 : List Nat) (l2 l3 : List (Nat × Option Own)), gt l2 k = gt l3 k → gt ((l1.map fun n => (n, (none : Option Own))) ++ l2) k = gt ((l1.map fun n => (n, (none : Option Own))) ++ l3) k := by
    intro l1 l2 l3 hh
    induction l1 with
    | nil => exact hh
    | cons y l1 ih => rw [List.map_cons, List.cons_append, List.cons_append, gt_cons, gt_cons, ih]
   rw [← hgn _ S.own ((m, some (.dvec e s (rows.set i (l.map fun p => preC p.1 p.2.1)))) :: (m, none) :: S.own) (by simp only [gt_cons]; rw [if_neg q1, if_neg q1])]
   exact hk
end
end Go.Awp
end
section
namespace Go.Awp
variable [Inhabited GMem]
section
variable {C : Ctx} {E : Env} {M : Mem} {S : AState} {a : Act} {w : World} {nm : Nat → Nat} {o : Oper} {K : Act → World → Prop} {Q : Exit → Act → World → Prop} (hd : ∀ d, o.dst = some d → C.wr d)
include hd
theorem wp_indexD {t : TypeId} {x i : Operand} {m len e e' sz sz' by_ : Nat} {kk : IntKind} {n : Int} {rows : List (List DD)} (ho : o.op = .indexAddr t x i) (hs : Sim C E M S a w) (ht : elemTy C.P t = some (e', sz, by_))
  (hx : Go.Awp.ev S x = .vh m len) (hi : Go.Awp.ev S i = .d (.v (.int kk n))) (hm : S.own? m = some (.dvec e sz' rows)) (h0 : 0 ≤ n) (h1 : n < len)
  (hK : ∀ a', Sim C E M { S with tmps := putT o.dst (.ep m sz n.toNat 0) S.tmps } a' w → K a' w) : o.wp C.P a w K Q := by
 have hxr := hs.ev x
 have hir := hs.ev i
 rw [hx] at hxr; rw [hi] at hir
 have hir := hir.dv
 obtain ⟨ii, z, hu, hii, hz, hzs, his, hib, hpos⟩ := elemTy_spec ht
 generalize hq : a.eval x = q at hxr
 cases hxr with
 | vh m len l c ad hE hl =>
  rcases (hs.own m _ hm).dview with ⟨hE2, rfl, _⟩ | ⟨g, cap, xs, B, hE2, _⟩
  ·rw [hE] at hE2; cases hE2; omega
  ·rw [hE] at hE2; cases hE2
   have hrun : (execOp a.eval o).run C.P w = .ok (.value (.pointer (some ⟨g, 0 + n.toNat * sz, none⟩))) w := by
    simp [execOp, ho, hq, hir, Instr.indexAt, asIntOf, run_underlying hu, sizeOf, typeInfo, hii, his, h0, h1, addr_add]
   refine wp_value hrun (hK _ (hs.put o.dst hd ?_))
   have := HRep.ep (E := E) (M := M) m sz n.toNat 0 g rows.length _ hE (by omega)
   simpa using this
theorem wp_appendD {c : Call} {p q : Operand} {d e sz bytes n2 : Nat} {t : TypeId} {rows news : List (List DD)} {ns : List Nat} (ho : o.op = .call c) (hc : c.callee = .builtin .append) (hargs : c.args = #[p, q]) (hty : c.argTypes = #[t, t]) (hdst : o.dst = some d)
  (hs : Sim C E M S a w) (ht : elemTy C.P t = some (e, sz, bytes))
  (hp : (∃ n, Go.Awp.ev S p = .vh n rows.length ∧ S.own? n = some (.dvec e sz rows) ∧ n ≠ n2 ∧ ns = [n, n2]) ∨ Go.Awp.ev S p = .d (.v (.slice none 0 0)) ∧ rows = [] ∧ ns = [n2])
  (hq : Go.Awp.ev S q = .vh n2 news.length) (hn2 : S.own? n2 = some (.dvec e sz news)) (hone : news.flatten.all DD.one = true) (hby : (rows.length + news.length) * bytes ≤ 140737488355328) (hle : rows.length + news.length ≤ 1000000000000)
  (hf : S.fresh (nm d) = true ∧ nm d < given)
  (hK : ∀ E' a' w', Sim C E' M { tmps := (d, .vh (nm d) (rows.length + news.length)) :: S.tmps, own := (nm d, some (.dvec e sz (rows ++ news))) :: (ns.map fun n => (n, none)) ++ S.own } a' w' → K a' w') : o.wp C.P a w K Q := by
 obtain ⟨ii, z, hu, hii, hz, hzs, his, hib, hpos⟩ := elemTy_spec ht
 have hqr := hs.ev q
 rw [hq] at hqr
 have ho2 := hs.own n2 _ hn2
 obtain ⟨ad2, cap2, hE2⟩ := ho2.dlen
 have hqv := vh_val hqr hE2
 have exec : ∀ v w', (Builtin.append_ #[t, t] o.type #[a.eval p, a.eval q]).run C.P w = .ok v w' → (execOp a.eval o).run C.P w = .ok (.value v) w' := by
  intro v w' h
  simp [execOp, ho, resolve, hc, hargs, invoke, builtin, hty, h]
 have src : ∃ cs B2, cs.length = news.length * sz ∧ ((a.eval q = .slice none 0 0 ∧ news.length = 0) ∨ ∃ ad cc, a.eval q = .slice (some ad) news.length cc ∧ ∀ (j : Nat) u, cs[j]? = some u → w.cell? (ad.add j) = some u) ∧
   DDReps M w cs news.flatten B2 ∧ (∀ r ∈ news, r.length = sz) ∧ B2.Nodup ∧ (∀ b ∈ B2, (Own.dvec e sz news).foot w (E n2) b) ∧ ∀ b ∈ B2, ∀ o, M b o = none := by
  rcases ho2.dview with ⟨hE, rfl, _⟩ | ⟨g, cap, xs, B, hE, h1, h2, h3, h4, h5, h6⟩
  ·exact ⟨[], [], by simp, .inl ⟨by rw [hqv, hE], rfl⟩, .nil, by simp, .nil, by simp, by simp⟩
  ·refine ⟨xs, B, h1.1, .inr ⟨⟨g, 0, none⟩, cap, by rw [hqv, hE], fun j u hu => ?_⟩, h3, h2, (List.nodup_cons.1 h4).2, fun b hb => (h6 b).2 (List.mem_cons_of_mem _ hb), fun b hb => h5 b (List.mem_cons_of_mem _ hb)⟩
   have hj : j < news.length * sz := by rw [← h1.1]; exact (List.getElem?_eq_some_iff.1 hu).1
   have := h1.cellAt j hj
   rw [addr_add, Nat.zero_add, this]; exact hu
 obtain ⟨cs, B2, hcl, hsrc, hD2, hz2, hnd2, hft2, hM2⟩ := src
 have hone' := hD2.allOne hone
 have base : ∃ v xs B1 row, a.eval p = v ∧ w.ownsRow 0 e sz v rows.length xs ∧ DDReps M w xs rows.flatten B1 ∧ (∀ r ∈ rows, r.length = sz) ∧ B1.Nodup ∧ blockOf v = row ∧ (∀ b, (b ∈ B1 ∨ row = some b) → ∃ n ∈ ns, n ≠ n2 ∧ ∃ o, S.own? n = some o ∧ o.foot w (E n) b) ∧
   (∀ b ∈ B1, ∀ o, M b o = none) ∧ (∀ b, row = some b → b ∉ B1 ∧ ∀ o, M b o = none) := by
  rcases hp with ⟨n, hpe, hn, hne, rfl⟩ | ⟨hpe, rfl, rfl⟩
  ·have hpr := hs.ev p
   rw [hpe] at hpr
   have ho1 := hs.own n _ hn
   obtain ⟨ad1, cap1, hE1⟩ := ho1.dlen
   have hpv := vh_val hpr hE1
   rcases ho1.dview with ⟨hE, rfl, _⟩ | ⟨g, cap, xs, B, hE, h1, h2, h3, h4, h5, h6⟩
   ·exact ⟨_, [], [], none, hpv, by rw [hE]; exact World.ownsRow_nil w 0 e sz, .nil, by simp, .nil, by rw [hE]; rfl, by simp, by simp, by simp⟩
   ·refine ⟨_, xs, B, some g, hpv, by rw [hE]; exact h1, h3, h2, (List.nodup_cons.1 h4).2, by rw [hE]; rfl, fun b hb => ⟨n, List.mem_cons_self, hne, _, hn, (h6 b).2 ?_⟩, fun b hb => h5 b (List.mem_cons_of_mem _ hb), fun b hb => ?_⟩
    ·rcases hb with hb | hb
     ·exact List.mem_cons_of_mem _ hb
     ·cases hb; exact List.mem_cons_self
    ·cases hb; exact ⟨(List.nodup_cons.1 h4).1, h5 _ List.mem_cons_self⟩
  ·have hpr := hs.ev p
   rw [hpe] at hpr
   exact ⟨_, [], [], none, hpr.dv, World.ownsRow_nil w 0 e sz, .nil, by simp, .nil, rfl, by simp, by simp, by simp⟩
 obtain ⟨v, xs, B1, row, hpv, hown, hD1, hz1, hnd1, hrow, hft1, hM1, hrowM⟩ := base
 obtain ⟨v', w', r1, r2, r3, r4⟩ := run_append_at (P := C.P) (w := w) t o.type e ii z sz bytes hu hii hz his hib hzs hpos v rows.length xs hown (a.eval q) cs news.length hcl hsrc hone' hle hby
 refine wp_value (exec v' w' (by rw [hpv]; exact r1)) ?_
 have hn2s : n2 ∈ ns := by
  rcases hp with ⟨n, _, _, _, rfl⟩ | ⟨_, _, rfl⟩
  ·simp
  ·simp
 have hdis : ∀ b, (b ∈ B1 ∨ row = some b) → b ∉ B2 := by
  intro b hb hb2
  obtain ⟨n, _, hne, o1, h1, h2⟩ := hft1 b hb
  exact hs.apart n n2 o1 _ b hne h1 hn2 h2 (hft2 b hb2)
 have hlt : ∀ b, b ∈ B1 ++ B2 → b < w.heap.size := fun b hb => by
  rcases List.mem_append.1 hb with q | q
  ·exact hD1.lt b q
  ·exact hD2.lt b q
 have hnr : ∀ b, b ∈ B1 ++ B2 → some b ≠ row := fun b hb e => by
  rcases List.mem_append.1 hb with q | q
  ·exact (hrowM b e.symm).1 q
  ·exact hdis b (.inr e.symm) q
 have hkeep : ∀ b, b ∈ B1 ++ B2 → w'.heap[b]? = w.heap[b]? := fun b hb => r3.block b (hlt b hb) (by rw [hrow]; exact hnr b hb)
 have e1 := hD1.keep (w' := w') (Mem.le_refl M) fun b hb => hkeep b (List.mem_append.2 (.inl hb))
 have e2 := hD2.keep (w' := w') (Mem.le_refl M) fun b hb => hkeep b (List.mem_append.2 (.inr hb))
 have hD' : DDReps M w' (xs ++ cs) (rows ++ news).flatten (B1 ++ B2) := by rw [List.flatten_append]; exact e1.app e2
 have hz' : ∀ r ∈ rows ++ news, r.length = sz := fun r hr => by
  rcases List.mem_append.1 hr with q | q
  ·exact hz1 r q
  ·exact hz2 r q
 have hnd : (B1 ++ B2).Nodup := List.nodup_append.2 ⟨hnd1, hnd2, fun x hx y hy e => hdis x (.inl hx) (e ▸ hy)⟩
 have hM12 : ∀ b ∈ B1 ++ B2, ∀ o, M b o = none := fun b hb => by
  rcases List.mem_append.1 hb with q | q
  ·exact hM1 b q
  ·exact hM2 b q
 have hvf : ∀ b, blockOf v' = some b → (row = some b ∨ w.heap.size ≤ b) := fun b hb => by rw [← hrow]; exact r4 b hb
 have hfin : OwnOk (fun m => if m = nm d then v' else E m) M w' (nm d) (.dvec e sz (rows ++ news)) ∧ (∀ b, (Own.dvec e sz (rows ++ news)).foot w' v' b → b ∈ B1 ++ B2 ∨ blockOf v' = some b) ∧ ∃ ad' cc', v' = .slice ad' (rows.length + news.length) cc' := by
  rcases r2.2 with ⟨h, h'⟩ | ⟨g, cap, cur, h, hrest⟩
  ·have hnil : rows ++ news = [] := List.eq_nil_of_length_eq_zero (by rw [List.length_append]; exact h')
   rw [hnil]
   subst h
   obtain ⟨k1, k2⟩ := OwnOk.dmt (E := fun m => if m = nm d then .slice none 0 0 else E m) (M := M) (w := w') (m := nm d) (e := e) (sz := sz) (by simp)
   refine ⟨k1, fun b hb => (k2 b ?_).elim, none, 0, by rw [h']⟩
   simpa using hb
  ·subst h
   have hgn : g ∉ B1 ++ B2 := fun hg => by
    rcases hvf g rfl with q | q
    ·exact hnr g hg q.symm
    ·have := hlt g hg; omega
   obtain ⟨k1, k2⟩ := OwnOk.dmk (E := fun m => if m = nm d then .slice (some ⟨g, 0, none⟩) (rows.length + news.length) cap else E m) (M := M) (w := w') (m := nm d) (e := e) (sz := sz) (g := g) (cap := cap) (xs := xs ++ cs) (rows := rows ++ news) (B := B1 ++ B2)
    (by simp) (by rw [List.length_append]; exact r2) hz' hD' (List.nodup_cons.2 ⟨hgn, hnd⟩) (fun b hb o => by
      rcases List.mem_cons.1 hb with q | q
      ·subst q
       rcases hvf b rfl with q | q
       ·exact (hrowM b q).2 o
       ·cases hm : M b o with
        | none => rfl
        | some u => have := hs.cell_lt hm; omega
      ·exact hM12 b q o)
   refine ⟨k1, fun b hb => ?_, _, _, rfl⟩
   have := (k2 b).1 (by simpa using hb)
   rcases List.mem_cons.1 this with q | q
   ·subst q; exact .inr rfl
   ·exact .inl q
 obtain ⟨ok, hfoot, ad', cc', hv'⟩ := hfin
 have hmv := hs.own_many (E' := fun m => if m = nm d then v' else E m) (d := nm d) (o' := .dvec e sz (rows ++ news)) (w' := w') ns (row := row) (by rw [← hrow]; exact r3)
  (fun b hb => by
    obtain ⟨n, h1, _, o1, h2, h3⟩ := hft1 b (.inr hb)
    exact ⟨n, h1, o1, h2, h3⟩) (fun m hm => by simp [hm]) (.inr hf)
  (fun b hb => by
    simp only [if_true] at hb
    rcases hfoot b hb with q | q
    ·rcases List.mem_append.1 q with q | q
     ·obtain ⟨n, h1, _, o1, h2, h3⟩ := hft1 b (.inl q)
      exact .inl ⟨n, h1, o1, h2, h3⟩
     ·exact .inl ⟨n2, hn2s, _, hn2, hft2 b q⟩
    ·rcases hvf b q with q | q
     ·obtain ⟨n, h1, _, o1, h2, h3⟩ := hft1 b (.inr q)
      exact .inl ⟨n, h1, o1, h2, h3⟩
     ·exact .inr q) ok
 have hrep : HRep (fun m => if m = nm d then v' else E m) M v' (.vh (nm d) (rows.length + news.length)) := by
  rw [hv']; exact HRep.vh _ _ (rows.length + news.length) cc' ad' (by simp) (Nat.le_refl _)
 have := hmv.put o.dst hd hrep
 rw [hdst] at this
 exact hK _ _ _ (by rw [hdst]; exact this)
theorem wp_buildD {t : TypeId} {x : Operand} {d e sz by_ : Nat} {l : List (H × DD × Option Nat)} (ho : o.op = .buildSlice t 1 #[(0, x)]) (hdst : o.dst = some d) (hs : Sim C E M S a w) (ht : elemTy C.P t = some (e, sz, by_)) (hsm : sz ≤ 16777216)
  (hc : (Go.Awp.ev S x).cells = some (l.map fun p => p.1)) (hl : l.length = sz) (hg : ∀ p ∈ l, GiveC S p.1 p.2.1 p.2.2) (hnd : (optL (l.map fun p => p.2.2)).Nodup) (hf : S.fresh (nm d) = true ∧ nm d < given)
  (hK : ∀ E' a' w', Sim C E' M { tmps := (d, .vh (nm d) 1) :: S.tmps, own := (nm d, some (.dvec e sz [l.map fun p => p.2.1])) :: ((optL (l.map fun p => p.2.2)).map fun n => (n, none)) ++ S.own } a' w' → K a' w') : o.wp C.P a w K Q := by
 obtain ⟨ii, z, hu, hii, hz, hzs, his, hib, hpos⟩ := elemTy_spec ht
 have hxr := hs.ev x
 obtain ⟨hxsz, hxcell⟩ := hxr.cells hc
 rw [List.length_map, hl] at hxsz
 have hrun : ∃ cells' : Array Value, cells'.size = sz ∧ (∀ k : Nat, cells'[k]? = (a.eval x).cells[k]?) ∧ (execOp a.eval o).run C.P w = .ok (.value (.slice (some ⟨w.heap.size, 0, none⟩) 1 1)) (w.alloc (.cells cells' e)) := by
  have key := fun (cells : Array Value) (hcs : cells.size = sz) i => foldl_set_get (a.eval x).cells.toList 0 0 cells i (by simp; omega)
  refine ⟨((a.eval x).cells.zipIdx.foldl (fun cs (p : Value × Nat) => cs.setIfInBounds (0 + p.2) p.1) ((Array.range (1 * sz)).map (fun i => z.cells[i % z.cells.size]!))), ?_, fun k => ?_, ?_⟩
  ·rw [← Array.foldl_toList, Array.toList_zipIdx, (key _ (by simp) 0).1]; simp
  ·rw [← Array.foldl_toList, Array.toList_zipIdx, (key _ (by simp) k).2]
   by_cases hk : k < sz
   ·rw [if_neg (by omega), if_pos (by simp; omega)]
    simp
   ·rw [if_neg (by omega), if_neg (by simp; omega), Array.getElem?_eq_none (by simp; omega), Array.getElem?_eq_none (by omega)]
  ·have hsm' : ¬ 1 * sz > 2 ^ 24 := by omega
   have h0 : ¬ 1 * sz = 0 := by omega
   have hff : Instr.fill (fun i => some (i * sz, sz)) ((Array.range (1 * sz)).map (fun i => z.cells[i % z.cells.size]!)) [(0, a.eval x)] = some ((a.eval x).cells.zipIdx.foldl (fun cs (p : Value × Nat) => cs.setIfInBounds (0 + p.2) p.1) ((Array.range (1 * sz)).map (fun i => z.cells[i % z.cells.size]!))) := by
    simp only [Instr.fill, Nat.zero_mul]
    rw [if_neg (by simp; omega)]
   simp only [execOp, ho, Instr.buildSlice, Sem.run_bind, run_underlying hu, Result.andThen_ok, sizeOf, typeInfo, program, Sem.run, hii, his, Sem.run_pure]
   rw [if_neg hsm', if_neg h0]
   simp only [Sem.run_bind, Sem.run_pure, Result.andThen_ok, zeroValue, typeInfo, program, Sem.run, hii, hz, List.map_toArray, List.map_cons, List.map_nil]
   rw [hff]
   simp only [newRow, Sem.run_bind, Sem.run_pure, Result.andThen_ok, run_newObj_alloc]
 obtain ⟨cells', hsize, hval, hrun⟩ := hrun
 refine wp_value hrun ?_
 have hnew : ∀ (k : Nat), M w.heap.size k = none := by
  intro k
  cases hm : M w.heap.size k with
  | none => rfl
  | some v => have := hs.cell_lt hm; omega
 have hlp : ∀ (k : Nat) v p, cells'.toList[k]? = some v → l[k]? = some p → HRep E M v p.1 := fun k v p hv hp => hxcell k v p.1 (by rw [← hval k]; simpa using hv) (by rw [List.getElem?_map, hp]; rfl)
 have hD : DDReps M (w.alloc (.cells cells' e)) cells'.toList [l.map fun p => preC p.1 p.2.1].flatten [] := by
  rw [List.flatten_cons, List.flatten_nil, List.append_nil]
  exact DDReps.pre (S := S) (E := E) (by simp; omega) hg hlp
 have hmx : 1 ≤ maxLen := by decide
 obtain ⟨k1, k2⟩ := OwnOk.dmk (E := fun m => if m = nm d then .slice (some ⟨w.heap.size, 0, none⟩) 1 1 else E m) (M := M) (w := w.alloc (.cells cells' e)) (m := nm d) (e := e) (sz := sz) (g := w.heap.size) (cap := 1) (xs := cells'.toList)
  (rows := [l.map fun p => preC p.1 p.2.1]) (B := []) (by simp)
  ⟨by simp [hsize], .inr ⟨w.heap.size, 1, cells', rfl, Nat.zero_le _, heap_alloc_new w _, Nat.le_refl _, hmx, by rw [hsize, Nat.one_mul], by rw [List.take_of_length_le]; simp [hsize]⟩⟩
  (fun r hr => by simp at hr; subst hr; rw [List.length_map]; exact hl) hD (by simp) (fun b hb o => by simp at hb; subst hb; exact hnew o)
 have h1 := hs.own_new (E' := fun m => if m = nm d then .slice (some ⟨w.heap.size, 0, none⟩) 1 1 else E m) (d := nm d) (o' := .dvec e sz [l.map fun p => preC p.1 p.2.1]) (World.grownBy_alloc w (.cells cells' e) none)
  (fun m hm => by simp [hm]) hf.1 hf.2 (fun b hb => by have := (k2 b).1 hb; simp at this; omega) k1
 have hnn : ∀ k o', S.own? k = some o' → k ≠ nm d := fun k o' hk e => by rw [e, AState.fresh_own hf.1] at hk; cases hk
 have hlk : ∀ k o', S.own? k = some o' → ({ S with own := (nm d, some (.dvec e sz [l.map fun p => preC p.1 p.2.1])) :: S.own } : AState).own? k = some o' := fun k o' hk => by
  show (gt (_ :: _) k).getD none = _
  rw [gt_cons, if_neg (Ne.symm (hnn k o' hk))]; exact hk
 have hcell : ∀ (k : Nat) (v : Value), cells'.toList[k]? = some v → (w.alloc (.cells cells' e)).cell? ⟨w.heap.size, k, none⟩ = some v := fun k v hv => by
  rw [cell_of_row _ w.heap.size k cells' e (0, 0) (heap_alloc_new w _)]; simpa using hv
 have hEr : ∀ (k : Nat) (v : Value) (p : H × DD × Option Nat), cells'.toList[k]? = some v → l[k]? = some p → HRep (fun m => if m = nm d then .slice (some ⟨w.heap.size, 0, none⟩) 1 1 else E m) M v p.1 := fun k v p hv hp => by
  refine (hlp k v p hv hp).mono (Mem.le_refl M) fun n hn => ?_
  have g0 := hg p (List.mem_of_getElem? hp)
  have : n ≠ nm d := by
   obtain ⟨p1, p2, p3⟩ := p
   cases g0 with
   | d => simp [H.has] at hn
   | nil => simp [H.has] at hn
   | dv k e z rows hk => simp only [H.has] at hn; exact (Nat.eq_of_beq_eq_true hn) ▸ hnn k _ hk
   | v k e z rows hk => simp only [H.has] at hn; exact (Nat.eq_of_beq_eq_true hn) ▸ hnn k _ hk
  simp [this]
 have hmn : nm d ∉ optL (l.map fun p => p.2.2) := by
  intro hmem
  have : ∀ l' : List (H × DD × Option Nat), (∀ p ∈ l', GiveC S p.1 p.2.1 p.2.2) → nm d ∈ optL (l'.map fun p => p.2.2) → False := by
   intro l'
   induction l' with
   | nil => intro _ h; cases h
   | cons y l' ih =>
    intro hg' h
    have g0 := hg' y List.mem_cons_self
    have ih' := ih fun p hp => hg' p (List.mem_cons_of_mem _ hp)
    obtain ⟨p1, p2, p3⟩ := y
    cases g0 with
    | d => exact ih' h
    | nil => exact ih' h
    | dv k e z rows hk =>
     rcases List.mem_cons.1 h with q | q
     ·exact hnn k _ hk q.symm
     ·exact ih' q
    | v k e z rows hk =>
     rcases List.mem_cons.1 h with q | q
     ·exact hnn k _ hk q.symm
     ·exact ih' q
  exact this l hg hmem
 have h2 := Sim.giveL (e := e) (sz := sz) l 0 ({ S with own := (nm d, some (.dvec e sz [l.map fun p => preC p.1 p.2.1])) :: S.own }) [l.map fun p => preC p.1 p.2.1] (l.map fun p => preC p.1 p.2.1) [] [] cells'.toList h1
  (by show (gt (_ :: _) (nm d)).getD none = _; rw [gt_cons, if_pos rfl]; rfl) (i := 0) rfl (by rw [List.nil_append, List.append_nil]) rfl
  (fun p hp => by
    have g0 := hg p hp
    obtain ⟨p1, p2, p3⟩ := p
    cases g0 with
    | d x => exact .d x
    | nil e z => exact .nil e z
    | dv k e z rows hk => exact .dv k e z rows (hlk k _ hk)
    | v k e z rows hk => exact .v k e z rows (hlk k _ hk)) hnd hmn (by simp; omega)
  (fun k v hv g l' c hg' => by
    simp only [if_true] at hg'; cases hg'
    rw [Nat.zero_mul, Nat.zero_add, Nat.zero_add]; exact hcell k v hv) hEr
 have h3 := h2.put o.dst hd (HRep.vh (nm d) 1 1 1 (some ⟨w.heap.size, 0, none⟩) (by simp) (Nat.le_refl _))
 rw [hdst] at h3
 refine hK _ _ _ (by
  rw [hdst]
  refine h3.weaken (fun t x hx => .inl hx) (fun k o' hk => ?_)
  simp only [AState.own?, List.cons_append, gt_cons, List.nil_append, List.append_nil, List.set_cons_zero] at hk ⊢
  by_cases q1 : nm d = k
  ·rw [if_pos q1] at hk ⊢; exact hk
  ·rw [if_neg q1] at hk ⊢
   have hgn : ∀ (l1 : List Nat) (l2 l3 : List (Nat × Option Own)), gt l2 k = gt l3 k → gt ((l1.map fun n => (n, (none : Option Own))) ++ l2) k = gt ((l1.map fun n => (n, (none : Option Own))) ++ l3) k := by
    intro l1 l2 l3 hh
    induction l1 with
    | nil => exact hh
    | cons y l1 ih => rw [List.map_cons, List.cons_append, List.cons_append, gt_cons, gt_cons, ih]
   rw [← hgn _ S.own ((nm d, some (.dvec e sz [l.map fun p => preC p.1 p.2.1])) :: S.own) (by rw [gt_cons, if_neg q1])]
   exact hk)
end
end Go.Awp
end
section
namespace Go.Awp
variable [Inhabited GMem] {C : Ctx} {nm : Nat → Nat} {o : Oper} {E : Env} {M : Mem} {S : AState} {a : Act} {w : World} {K : Act → World → Prop} {Q : Exit → Act → World → Prop}
theorem setCells_splice {g te : Nat} {fr : Nat × Nat} : ∀ (vs : List Value) (o : Nat) (w : World) (cur : Array Value), w.heap[g]? = some (.cells cur te fr) → o + vs.length ≤ cur.size →
  ∃ cur' : Array Value, (w.setCells g o vs).heap[g]? = some (.cells cur' te fr) ∧ cur'.toList = cur.toList.take o ++ vs ++ cur.toList.drop (o + vs.length) ∧ cur'.size = cur.size ∧ (∀ k, k ≠ g → (w.setCells g o vs).heap[k]? = w.heap[k]?) ∧
   (w.setCells g o vs).heap.size = w.heap.size ∧ (w.setCells g o vs).os = w.os ∧ (w.setCells g o vs).tape = w.tape ∧ (w.setCells g o vs).output = w.output
 | [], o, w, cur, h, _ => ⟨cur, h, by simp, rfl, fun _ _ => rfl, rfl, rfl, rfl, rfl⟩
 | v :: r, o, w, cur, h, hle => by
  simp only [List.length_cons] at hle
  have h1 : (w.setCell ⟨g, o, none⟩ v).heap[g]? = some (.cells (cur.setIfInBounds o v) te fr) := by
   simp [World.setCell, Array.getElem?_modify, h]
  obtain ⟨cur', a1, a2, a3, a4, a5, a6, a7, a8⟩ := setCells_splice r (o + 1) (w.setCell ⟨g, o, none⟩ v) (cur.setIfInBounds o v) h1 (by simp; omega)
  refine ⟨cur', a1, ?_, by rw [a3]; simp, fun k hk => ?_, by rw [World.setCells, a5]; simp, by rw [World.setCells, a6]; rfl, by rw [World.setCells, a7]; rfl, by rw [World.setCells, a8]; rfl⟩
  ·rw [a2]
   apply List.ext_getElem?
   intro x
   have hl : (cur.setIfInBounds o v).toList = cur.toList.set o v := by simp
   rw [hl]
   simp only [List.length_cons, List.append_assoc, List.getElem?_append, List.length_take, List.length_set, Array.length_toList, List.getElem?_take, List.getElem?_set, List.getElem?_drop, List.getElem?_cons]
   grind
  ·rw [World.setCells, a4 k hk]
   have : ¬ g = k := fun e => hk e.symm
   simp [World.setCell, Array.getElem?_modify, this]
variable (hd : ∀ d, o.dst = some d → C.wr d)
include hd
theorem wp_cut {t : TypeId} {x : Operand} {lo hi : Option Operand} {m e e' sz by_ : Nat} {l h : Int} {rows : List (List D)} (ho : o.op = .slice t x lo hi none) (hs : Sim C E M S a w) (ht : elemTy C.P t = some (e', sz, by_)) (hx : Go.Awp.ev S x = .vh m rows.length)
  (hm : S.own? m = some (.vec e sz rows)) (hne : rows ≠ []) (hl : bnd (Go.Awp.ev S) lo 0 = some l) (hh : bnd (Go.Awp.ev S) hi rows.length = some h) (h0 : 0 ≤ l) (h1 : l ≤ h) (h2 : h ≤ rows.length)
  (hK : ∀ a', Sim C E M { S with tmps := putT o.dst (.sv m sz l.toNat (h.toNat - l.toNat)) S.tmps } a' w → K a' w) : o.wp C.P a w K Q := by
 obtain ⟨ii, z, hu, hii, hz, hzs, his, hib, hpos⟩ := elemTy_spec ht
 have hxr := hs.ev x
 rw [hx] at hxr
 obtain ⟨xs, ho1, ho2, ho3, ho4⟩ := hs.own m _ hm
 have hlp : 0 < rows.length := List.length_pos_iff.2 hne
 rcases ho1.2 with ⟨_, hz0⟩ | ⟨g, cap, cur, hE, _, hg, hnc, hcm, hcs, hct⟩
 ·omega
 have hq := vh_val hxr hE
 rw [hE] at hq
 have hr := run_bounds (P := C.P) (w := w) true (len := rows.length) (cap := cap) (bnd_spec hs hl) (bnd_spec hs hh) h0 h1 (by omega)
 refine wp_value (v := .slice (some ⟨g, if l.toNat = cap then 0 else l.toNat * sz, none⟩) (h.toNat - l.toNat) (cap - l.toNat)) (w' := w) ?_ ?_
 ·have run : (execOp a.eval o).run C.P w = .ok (.value (.slice (if cap = l.toNat then some ⟨g, 0, none⟩ else some ((⟨g, 0, none⟩ : Addr).add (l.toNat * sz))) (h.toNat - l.toNat) (cap - l.toNat))) w := by
   simp [execOp, ho, hq, Instr.sliceAt, Instr.slice, run_underlying hu, hr, sizeOf, typeInfo, hii, his]
  rw [run]
  by_cases hlc : cap = l.toNat
  ·rw [if_pos hlc, if_pos hlc.symm]
  ·rw [if_neg hlc, if_neg (fun e => hlc e.symm), addr_add, Nat.zero_add]
 ·have hrep : HRep E M (.slice (some ⟨g, if l.toNat = cap then 0 else l.toNat * sz, none⟩) (h.toNat - l.toNat) (cap - l.toNat)) (.sv m sz l.toNat (h.toNat - l.toNat)) :=
   .sv m sz l.toNat (h.toNat - l.toNat) g rows.length cap hE (by omega)
  exact hK _ (hs.put o.dst hd hrep)
theorem wp_join {c : Call} {p q : Operand} {d e sz bytes m i j : Nat} {t : TypeId} {rows : List (List D)} (ho : o.op = .call c) (hc : c.callee = .builtin .append) (hargs : c.args = #[p, q]) (hty : c.argTypes = #[t, t]) (hdst : o.dst = some d)
  (hs : Sim C E M S a w) (ht : elemTy C.P t = some (e, sz, bytes)) (hp : Go.Awp.ev S p = .sv m sz 0 i) (hq : Go.Awp.ev S q = .sv m sz j (rows.length - j)) (hm : S.own? m = some (.vec e sz rows)) (hij : i ≤ j) (hj : j ≤ rows.length) (hone : rows.all (fun r => r.all D.one) = true)
  (hf : S.fresh (nm d) = true ∧ nm d < given)
  (hK : ∀ E' a' w', Sim C E' M { tmps := (d, .vh (nm d) (i + (rows.length - j))) :: S.tmps, own := (nm d, some (.vec e sz (rows.take i ++ rows.drop j))) :: (m, none) :: S.own } a' w' → K a' w') : o.wp C.P a w K Q := by
 obtain ⟨ii, z, hu, hii, hz, hzs, his, hib, hpos⟩ := elemTy_spec ht
 have exec : ∀ v w', (Builtin.append_ #[t, t] o.type #[a.eval p, a.eval q]).run C.P w = .ok v w' → (execOp a.eval o).run C.P w = .ok (.value v) w' := by
  intro v w' h
  simp [execOp, ho, resolve, hc, hargs, invoke, builtin, hty, h]
 have hpr := hs.ev p
 have hqr := hs.ev q
 rw [hp] at hpr
 rw [hq] at hqr
 generalize hpv : a.eval p = pv at hpr
 generalize hqv : a.eval q = qv at hqr
 cases hpr with
 | sv _ _ _ _ g l cap hE hl1 =>
 cases hqr with
 | sv _ _ _ _ g2 l2 cap2 hE2 hl2 =>
 rw [hE] at hE2
 cases hE2
 obtain ⟨o1, o2⟩ := v2d (hs.own m _ hm)
 rcases o1.dview with ⟨hn, _, _⟩ | ⟨g', cap', xs, B, hE', hown, hz1, hD, hnd, hM, hft⟩
 ·rw [hE] at hn; cases hn
 rw [hE] at hE'
 simp only [List.length_map] at hE' hown
 cases hE'
 rcases hown.2 with ⟨hn, _⟩ | ⟨g', cap', cur, hn, _, hg, hnc, hcm, hcs, hct⟩
 ·cases hn
 cases hn
 have hzr : ∀ r ∈ rows, r.length = sz := fun r hr => by
  have := hz1 _ (List.mem_map.2 ⟨r, hr, rfl⟩)
  rwa [List.length_map] at this
 have hone2 : (rows.map fun r => r.map DD.d).flatten.all DD.one = true := by
  rw [List.all_flatten, List.all_map, List.all_eq_true]
  intro r hr
  have := List.all_eq_true.1 hone r hr
  simp only [Function.comp_apply, List.all_map]
  exact this
 have hxone := hD.allOne hone2
 have hxl := hown.1
 have hmul : ∀ x y : Nat, x ≤ y → x * sz ≤ y * sz := fun x y h => Nat.mul_le_mul_right sz h
 have hijm := hmul i j hij
 have hjm := hmul j rows.length hj
 have hcm' := hmul rows.length cap hnc
 obtain ⟨news, hnews⟩ : ∃ news, news = xs.drop (j * sz) := ⟨_, rfl⟩
 have hsub : (rows.length - j) * sz = rows.length * sz - j * sz := Nat.sub_mul _ _ _
 have hnl : news.length = (rows.length - j) * sz := by rw [hnews, List.length_drop, hxl, hsub]
 have hcell : ∀ x, w.cell? ⟨g, x, none⟩ = cur[x]? := fun x => by simp [World.cell?, hg]
 have hxc : ∀ (x : Nat) (u : Value), xs[x]? = some u → cur[x]? = some u := fun x u hu => by
  rw [← hct, List.getElem?_take] at hu
  split at hu
  ·simpa using hu
  ·cases hu
 have hsrc : ∀ (x : Nat) u, news[x]? = some u → w.cell? ((⟨g, if j = cap then 0 else j * sz, none⟩ : Addr).add x) = some u := fun x u hu => by
  have hx : x < news.length := (List.getElem?_eq_some_iff.1 hu).1
  rw [hnews, List.getElem?_drop] at hu
  have hjc : ¬ j = cap := fun e => by
   have : rows.length - j = 0 := by omega
   rw [hnl, this, Nat.zero_mul] at hx
   omega
  rw [if_neg hjc, addr_add, hcell]
  exact hxc _ _ hu
 have hpa : (if (0 : Nat) = cap then 0 else 0 * sz) = 0 := by split <;> simp
 rw [hpa, Nat.sub_zero] at hpv
 have hrun := run_append_room_cells (P := C.P) w t o.type e ii hu hii g 0 i cap ⟨g, if j = cap then 0 else j * sz, none⟩ (rows.length - j) (cap - j) news (by rw [his]; exact hnl) hsrc (fun u hu => hxone u (by rw [hnews] at hu; exact List.mem_of_mem_drop hu)) (by omega)
  (fun x hx => by
    rw [his, hcell]
    have : 0 + i * sz + x < cur.size := by omega
    rw [Array.getElem?_eq_getElem this]; rfl)
  (fun x hx => by simp [World.frozen?, hg])
 rw [his, Nat.zero_add] at hrun
 refine wp_value (exec _ _ (by rw [hpv, hqv]; exact hrun)) ?_
 obtain ⟨cur', b1, b2, b3, b4, b5, b6, b7, b8⟩ := setCells_splice news (i * sz) w cur hg (by omega)
 obtain ⟨w', hw'⟩ : ∃ w', w' = w.setCells g (i * sz) news := ⟨_, rfl⟩
 rw [← hw'] at b1 b4 b5 b6 b7 b8 ⊢
 have hgr : w.grownBy w' (some g) := ⟨b6, b7, b8, by rw [b5]; exact Nat.le_refl _, fun k _ hk => b4 k fun e => hk (by rw [e])⟩
 have hzt : ∀ r ∈ rows.take i, r.length = sz := fun r hr => hzr r (List.mem_of_mem_take hr)
 have hil : (rows.take i).length = i := by rw [List.length_take]; omega
 have hfl : rows.flatten = (rows.take i).flatten ++ (((rows.drop i).take (j - i)).flatten ++ (rows.drop j).flatten) := by
  rw [← List.flatten_append, ← List.flatten_append]
  congr 1
  have h3 : rows.drop j = (rows.drop i).drop (j - i) := by rw [List.drop_drop]; congr 1; omega
  rw [h3, List.take_append_drop, List.take_append_drop]
 have hB0 : B = [] := hD.nilB (l := rows.flatten) (flat_map_d rows)
 subst hB0
 rw [flat_map_d, hfl, List.map_append, List.map_append] at hD
 obtain ⟨B1, B2, d1, d2, hB⟩ := hD.split
 obtain ⟨B3, B4, d3, d4, hB2⟩ := d2.split
 have hBn : B1 = [] ∧ B4 = [] := by
  have := List.append_eq_nil_iff.1 hB.symm
  have h2 := List.append_eq_nil_iff.1 (hB2.symm.trans this.2)
  exact ⟨this.1, h2.2⟩
 obtain ⟨rfl, rfl⟩ := hBn
 have htl : (rows.take i).flatten.length = i * sz := by rw [flat_len hzt, hil]
 have hml : ((rows.drop i).take (j - i)).flatten.length = j * sz - i * sz := by
  rw [flat_len fun r hr => hzr r (List.mem_of_mem_drop (List.mem_of_mem_take hr))]
  simp only [List.length_take, List.length_drop]
  rw [← Nat.sub_mul]
  congr 1
  omega
 simp only [List.length_map] at d1 d4
 rw [htl] at d1 d4
 rw [hml, List.drop_drop, show i * sz + (j * sz - i * sz) = j * sz by omega] at d4
 have hD' : DDReps M w' (xs.take (i * sz) ++ news) ((rows.take i ++ rows.drop j).map fun r => r.map DD.d).flatten [] := by
  rw [flat_map_d, List.flatten_append, List.map_append, hnews]
  have := d1.app d4
  exact this.keep (Mem.le_refl _) fun b hb => by cases hb
 have hlen' : (rows.take i ++ rows.drop j).length = i + (rows.length - j) := by rw [List.length_append, hil, List.length_drop]
 have hpos' : (i + (rows.length - j)) * sz = i * sz + (rows.length - j) * sz := Nat.add_mul _ _ _
 have hct' : cur'.toList.take ((i + (rows.length - j)) * sz) = xs.take (i * sz) ++ news := by
  rw [b2, hpos', ← hnl]
  have h3 : (cur.toList.take (i * sz)).length = i * sz := by rw [List.length_take]; simp only [Array.length_toList]; omega
  rw [List.take_append_of_le_length (by rw [List.length_append, h3]; omega)]
  rw [List.take_of_length_le (by rw [List.length_append, h3]; omega)]
  congr 1
  rw [← hct, List.take_take, Nat.min_eq_left (by omega)]
 have hown' : w'.ownsRow 0 e sz (.slice (some ⟨g, 0, none⟩) (i + (rows.length - j)) cap) (i + (rows.length - j)) (xs.take (i * sz) ++ news) := by
  refine ⟨?_, .inr ⟨g, cap, cur', rfl, Nat.zero_le _, b1, by omega, hcm, by rw [b3]; exact hcs, hct'⟩⟩
  rw [List.length_append, List.length_take, hnl, hpos', hxl, Nat.min_eq_left (by omega)]
 obtain ⟨k1, k2⟩ := OwnOk.dmk (E := fun x => if x = nm d then .slice (some ⟨g, 0, none⟩) (i + (rows.length - j)) cap else E x) (M := M) (w := w') (m := nm d) (e := e) (sz := sz) (g := g) (cap := cap) (xs := xs.take (i * sz) ++ news)
  (rows := (rows.take i ++ rows.drop j).map fun r => r.map DD.d) (B := []) (by simp only [if_true, List.length_map, hlen']) (by simp only [List.length_map, hlen']; exact hown')
  (fun r hr => by
    obtain ⟨r0, h3, rfl⟩ := List.mem_map.1 hr
    rw [List.length_map]
    rcases List.mem_append.1 h3 with h3 | h3
    ·exact hzr r0 (List.mem_of_mem_take h3)
    ·exact hzr r0 (List.mem_of_mem_drop h3)) hD' (by simp) (fun b hb x => hM b hb x)
 obtain ⟨j1, j2⟩ := d2v k1
 have hmv := hs.own_many (E' := fun x => if x = nm d then .slice (some ⟨g, 0, none⟩) (i + (rows.length - j)) cap else E x) (d := nm d) (o' := .vec e sz (rows.take i ++ rows.drop j)) (w' := w') [m] (row := some g) hgr
  (fun b hb => by
    cases hb
    exact ⟨m, List.mem_cons_self, _, hm, (o2 g).1 ((hft g).2 List.mem_cons_self)⟩) (fun x hx => if_neg hx) (.inr hf)
  (fun b hb => by
    have h3 := (k2 b).1 ((j2 b).2 hb)
    exact .inl ⟨m, List.mem_cons_self, _, hm, (o2 b).1 ((hft b).2 h3)⟩) j1
 have hrep : HRep (fun x => if x = nm d then Value.slice (some ⟨g, 0, none⟩) (i + (rows.length - j)) cap else E x) M (.slice (some ⟨g, 0, none⟩) (i + (rows.length - j)) cap) (.vh (nm d) (i + (rows.length - j))) :=
  .vh _ _ (i + (rows.length - j)) cap (some ⟨g, 0, none⟩) (if_pos rfl) (Nat.le_refl _)
 have := hmv.put o.dst hd hrep
 rw [hdst] at this
 exact hK _ _ _ (by rw [hdst]; exact this)
end Go.Awp
end
section
namespace Go.Awp
variable [Inhabited GMem]
structure OLe (o' o : Own) : Prop where
 ok : ∀ (E : Env) (M : Mem) (w : World) (n : Nat), OwnOk E M w n o' → OwnOk E M w n o
 foot : ∀ (E : Env) (M : Mem) (w : World) (n b : Nat), OwnOk E M w n o' → o.foot w (E n) b → o'.foot w (E n) b
theorem OLe.refl (o : Own) : OLe o o := ⟨fun _ _ _ _ h => h, fun _ _ _ _ _ _ h => h⟩
theorem OLe.v2d {e sz : Nat} {rows : List (List D)} : OLe (.vec e sz rows) (.dvec e sz (rows.map fun r => r.map .d)) :=
 ⟨fun _ _ _ _ h => (Go.Awp.v2d h).1, fun _ _ _ _ b h hb => ((Go.Awp.v2d h).2 b).1 hb⟩
theorem OLe.d2v {e sz : Nat} {rows : List (List D)} : OLe (.dvec e sz (rows.map fun r => r.map .d)) (.vec e sz rows) :=
 ⟨fun _ _ _ _ h => (Go.Awp.d2v h).1, fun _ _ _ _ b h hb => ((Go.Awp.d2v h).2 b).2 hb⟩
theorem DDReps.weaken {M : Mem} {w : World} {vs : List Value} {ds : List DD} {B : List Nat} (h : DDReps M w vs ds B) : ∀ {ds' : List DD}, ds'.length = ds.length → (∀ (k : Nat) x, ds'[k]? = some x → x = .junk ∨ ds[k]? = some x) → ∃ B', DDReps M w vs ds' B' ∧ B'.Sublist B := by
 induction h with
 | nil => intro ds' hl _; exact ⟨[], by rw [List.eq_nil_of_length_eq_zero hl]; exact .nil, .refl _⟩
 | d h r ih =>
  intro ds' hl hk
  cases ds' with
  | nil => cases hl
  | cons y ds' =>
   obtain ⟨B', h1, h2⟩ := ih (by simpa using hl) (fun k x hx => by simpa using hk (k + 1) x (by simpa using hx))
   rcases hk 0 y rfl with rfl | q
   ·exact ⟨B', .junk h1, h2⟩
   ·cases q; exact ⟨B', .d h h1, h2⟩
 | junk r ih =>
  intro ds' hl hk
  cases ds' with
  | nil => cases hl
  | cons y ds' =>
   obtain ⟨B', h1, h2⟩ := ih (by simpa using hl) (fun k x hx => by simpa using hk (k + 1) x (by simpa using hx))
   rcases hk 0 y rfl with rfl | q
   ·exact ⟨B', .junk h1, h2⟩
   ·cases q; exact ⟨B', .junk h1, h2⟩
 | mt r ih =>
  intro ds' hl hk
  cases ds' with
  | nil => cases hl
  | cons y ds' =>
   obtain ⟨B', h1, h2⟩ := ih (by simpa using hl) (fun k x hx => by simpa using hk (k + 1) x (by simpa using hx))
   rcases hk 0 y rfl with rfl | q
   ·exact ⟨B', .junk h1, h2⟩
   ·cases q; exact ⟨B', .mt h1, h2⟩
 | sl hn ho hz h r _ ih =>
  intro ds' hl hk
  cases ds' with
  | nil => cases hl
  | cons y ds' =>
   obtain ⟨B', h1, h2⟩ := ih (by simpa using hl) (fun k x hx => by simpa using hk (k + 1) x (by simpa using hx))
   rcases hk 0 y rfl with rfl | q
   ·exact ⟨B', .junk h1, (h2.trans (List.sublist_append_right _ _)).cons _⟩
   ·cases q; exact ⟨_, .sl hn ho hz h h1, ((List.Sublist.refl _).append h2).cons_cons _⟩
theorem flat_weak : ∀ {rows rows' : List (List DD)}, rows'.length = rows.length → (∀ (i : Nat) r r', rows[i]? = some r → rows'[i]? = some r' → r'.length = r.length ∧ ∀ (k : Nat) x, r'[k]? = some x → x = .junk ∨ r[k]? = some x) →
  rows'.flatten.length = rows.flatten.length ∧ ∀ (k : Nat) x, rows'.flatten[k]? = some x → x = .junk ∨ rows.flatten[k]? = some x
 | [], [], _, _ => ⟨rfl, fun k x h => by simp at h⟩
 | [], _ :: _, h, _ => by cases h
 | _ :: _, [], h, _ => by cases h
 | a :: r, b :: s, h, hk => by
  obtain ⟨i1, i2⟩ := flat_weak (rows := r) (rows' := s) (by simpa using h) fun i x y hx hy => hk (i + 1) x y (by simpa using hx) (by simpa using hy)
  obtain ⟨j1, j2⟩ := hk 0 a b rfl rfl
  refine ⟨by rw [List.flatten_cons, List.flatten_cons, List.length_append, List.length_append, i1, j1], fun k x hx => ?_⟩
  rw [List.flatten_cons] at hx ⊢
  by_cases hl : k < b.length
  ·rw [List.getElem?_append_left hl] at hx
   rw [List.getElem?_append_left (by omega)]
   exact j2 k x hx
  ·rw [List.getElem?_append_right (by omega)] at hx
   rw [List.getElem?_append_right (by omega), ← j1]
   exact i2 _ x hx
theorem OLe.dweak {e sz : Nat} {rows rows' : List (List DD)} (hl : rows'.length = rows.length)
  (hk : ∀ (i : Nat) r r', rows[i]? = some r → rows'[i]? = some r' → r'.length = r.length ∧ ∀ (k : Nat) x, r'[k]? = some x → x = .junk ∨ r[k]? = some x) : OLe (.dvec e sz rows) (.dvec e sz rows') := by
 obtain ⟨f1, f2⟩ := flat_weak hl hk
 have key : ∀ (E : Env) (M : Mem) (w : World) (n : Nat), OwnOk E M w n (.dvec e sz rows) → OwnOk E M w n (.dvec e sz rows') ∧ ∀ b, (Own.dvec e sz rows').foot w (E n) b → (Own.dvec e sz rows).foot w (E n) b := by
  intro E M w n h
  rcases h.dview with ⟨hE, rfl, hf⟩ | ⟨g, cap, xs, B, hE, ho, hz, hD, hnd, hM, hft⟩
  ·have : rows' = [] := List.eq_nil_of_length_eq_zero hl
   subst this
   exact ⟨h, fun b hb => hb⟩
  ·obtain ⟨B', h1, h2⟩ := hD.weaken f1 f2
   have hz' : ∀ r ∈ rows', r.length = sz := fun r' hr' => by
    obtain ⟨i, hi⟩ := List.getElem?_of_mem hr'
    have hil : i < rows.length := by rw [← hl]; exact (List.getElem?_eq_some_iff.1 hi).1
    rw [(hk i _ r' (List.getElem?_eq_getElem hil) hi).1]
    exact hz _ (List.getElem_mem hil)
   obtain ⟨k1, k2⟩ := OwnOk.dmk (E := E) (M := M) (w := w) (m := n) (e := e) (sz := sz) (g := g) (cap := cap) (xs := xs) (rows := rows') (B := B') (by rw [hl]; exact hE) (by rw [hl]; exact ho) hz' h1
    (hnd.sublist (h2.cons_cons g)) fun b hb => hM b (by
      rcases List.mem_cons.1 hb with q | q
      ·exact q ▸ List.mem_cons_self
      ·exact List.mem_cons_of_mem _ (h2.subset q))
   refine ⟨k1, fun b hb => (hft b).2 ?_⟩
   rcases List.mem_cons.1 ((k2 b).1 hb) with q | q
   ·exact q ▸ List.mem_cons_self
   ·exact List.mem_cons_of_mem _ (h2.subset q)
 exact ⟨fun E M w n h => (key E M w n h).1, fun E M w n b h hb => (key E M w n h).2 b hb⟩
def subN (b j : Nat) : Nat := 20000 + 40 * b + j
def loadW (ag : Bool) (sz : Nat) : Nat := match ag with
 | true => sz
 | false => 1
theorem Sim.ole {C : Ctx} {E : Env} {M : Mem} {S S' : AState} {a : Act} {w : World} (h : Sim C E M S a w) (ht : S'.tmps = S.tmps) (ho : ∀ n o, S'.own? n = some o → ∃ o', S.own? n = some o' ∧ OLe o' o) : Sim C E M S' a w := by
 refine h.regroup (fun t x hx => ⟨x, by rw [← ht]; exact hx, fun _ hv => hv⟩) (fun n o hn => ?_) (fun n m o o' b hne hn hm hb hb' => ?_) (fun n o b hn hb => ?_) fun _ _ => rfl
 ·obtain ⟨o1, h1, h2⟩ := ho n o hn
  exact h2.ok _ _ _ _ (h.own n o1 h1)
 ·obtain ⟨o1, h1, h2⟩ := ho n o hn
  obtain ⟨o2, h3, h4⟩ := ho m o' hm
  exact h.apart n m o1 o2 b hne h1 h3 (h2.foot _ _ _ _ _ (h.own n o1 h1) hb) (h4.foot _ _ _ _ _ (h.own m o2 h3) hb')
 ·obtain ⟨o1, h1, h2⟩ := ho n o hn
  exact ⟨n, o1, h1, h2.foot _ _ _ _ _ (h.own n o1 h1) hb⟩
inductive PLe : List (Nat × Own) → List (Nat × Own) → Prop
 | nil : PLe [] []
 | cons {n : Nat} {o o' : Own} {l l' : List (Nat × Own)} (h : OLe o o') (t : PLe l l') : PLe ((n, o) :: l) ((n, o') :: l')
theorem PLe.names {l l' : List (Nat × Own)} (h : PLe l l') : l.map (·.1) = l'.map (·.1) := by
 induction h with
 | nil => rfl
 | cons _ _ ih => simp [ih]
theorem PLe.gt {l l' : List (Nat × Own)} (h : PLe l l') {n : Nat} {o : Own} (hn : Go.Awp.gt l' n = some o) : ∃ o', Go.Awp.gt l n = some o' ∧ OLe o' o := by
 induction h with
 | nil => simp [Go.Awp.gt] at hn
 | cons h t ih =>
  rw [gt_cons] at hn ⊢
  split at hn
  ·rename_i hq
   cases hn
   exact ⟨_, by rw [if_pos hq], h⟩
  ·rename_i hq
   rw [if_neg hq]; exact ih hn
theorem PLe.gtNone {l l' : List (Nat × Own)} (h : PLe l l') {n : Nat} (hn : Go.Awp.gt l' n = none) : Go.Awp.gt l n = none := by
 induction h with
 | nil => rfl
 | cons h t ih =>
  rw [gt_cons] at hn ⊢
  split at hn
  ·cases hn
  ·rename_i hq
   rw [if_neg hq]; exact ih hn
inductive GiveW (ω : Nat → Option Own) : H → DD → Option Nat → Prop
 | d (x : D) : GiveW ω (.d x) (.d x) none
 | nil (e z : Nat) : GiveW ω (.d (.v (.slice none 0 0))) (.sl e z []) none
 | dv (n e z : Nat) (rows : List (List DD)) (h : ω n = some (.dvec e z rows)) : GiveW ω (.vh n rows.length) (.sl e z rows) (some n)
 | v (n e z : Nat) (rows : List (List D)) (h : ω n = some (.vec e z rows)) : GiveW ω (.vh n rows.length) (.sl e z (rows.map fun r => r.map .d)) (some n)
theorem GiveW.to {S : AState} {x : H} {c : DD} {n : Option Nat} (h : GiveW S.own? x c n) : GiveC S x c n := by
 cases h with
 | d x => exact .d x
 | nil e z => exact .nil e z
 | dv n e z rows h => exact .dv n e z rows h
 | v n e z rows h => exact .v n e z rows h
theorem GiveW.congr {ω ω' : Nat → Option Own} {x : H} {c : DD} {n : Option Nat} (h : GiveW ω x c n) (hω : ∀ k, n = some k → ω' k = ω k) : GiveW ω' x c n := by
 cases h with
 | d x => exact .d x
 | nil e z => exact .nil e z
 | dv n e z rows h => exact .dv n e z rows (by rw [hω n rfl]; exact h)
 | v n e z rows h => exact .v n e z rows (by rw [hω n rfl]; exact h)
theorem optL_mem {l : List (Option Nat)} {k : Nat} (h : some k ∈ l) : k ∈ optL l := by
 induction l with
 | nil => cases h
 | cons y l ih =>
  rcases List.mem_cons.1 h with h1 | h1
  ·subst h1; exact List.mem_cons_self
  ·cases y with
   | none => exact ih h1
   | some _ => exact List.mem_cons_of_mem _ (ih h1)
theorem gt_appS (l1 : List (Nat × Own)) (l2 : List (Nat × Option Own)) (n : Nat) : gt (l1.map (fun p => (p.1, some p.2)) ++ l2) n = match gt l1 n with | some x => some (some x) | none => gt l2 n := by
 induction l1 with
 | nil => rfl
 | cons p l1 ih =>
  rw [List.map_cons, List.cons_append, gt_cons, gt_cons]
  by_cases hp : p.1 = n
  ·rw [if_pos hp, if_pos hp]
  ·rw [if_neg hp, if_neg hp, ih]
inductive NilL : List Value → List H → List (Nat × Own) → Prop
 | nil : NilL [] [] []
 | keep (x : Value) {z : List Value} {hh : List H} {os : List (Nat × Own)} (h : NilL z hh os) : NilL (x :: z) (.d (.v x) :: hh) os
 | new (n e s : Nat) (o : Own) {z : List Value} {hh : List H} {os : List (Nat × Own)} (ho : o = .vec e s [] ∨ o = .dvec e s []) (h : NilL z hh os) : NilL (.slice none 0 0 :: z) (.vh n 0 :: hh) ((n, o) :: os)
theorem NilL.len {z : List Value} {hh : List H} {os : List (Nat × Own)} (h : NilL z hh os) : z.length = hh.length := by
 induction h with
 | nil => rfl
 | keep _ _ ih => simp [ih]
 | new _ _ _ _ _ _ ih => simp [ih]
theorem NilL.own {z : List Value} {hh : List H} {os : List (Nat × Own)} (h : NilL z hh os) : ∀ p ∈ os, ∃ e s, p.2 = .vec e s [] ∨ p.2 = .dvec e s [] := by
 induction h with
 | nil => intro p hp; cases hp
 | keep _ _ ih => exact ih
 | new n e s o ho _ ih =>
  intro p hp
  rcases List.mem_cons.1 hp with rfl | hp
  ·exact ⟨e, s, ho⟩
  ·exact ih p hp
theorem NilL.rep {E : Env} {M : Mem} {z : List Value} {hh : List H} {os : List (Nat × Own)} (h : NilL z hh os) (hE : ∀ p ∈ os, E p.1 = .slice none 0 0) : ∀ (i : Nat) c x, z[i]? = some c → hh[i]? = some x → HRep E M c x := by
 induction h with
 | nil => intro i c x hc; simp at hc
 | keep y _ ih =>
  intro i c x hc hx
  cases i with
  | zero => simp at hc hx; subst hc; subst hx; exact .d (.v _)
  | succ i => exact ih hE i c x (by simpa using hc) (by simpa using hx)
 | new n e s o ho _ ih =>
  intro i c x hc hx
  cases i with
  | zero => simp at hc hx; subst hc; subst hx; exact .vh n 0 0 0 none (hE _ List.mem_cons_self) (Nat.le_refl _)
  | succ i => exact ih (fun p hp => hE p (List.mem_cons_of_mem _ hp)) i c x (by simpa using hc) (by simpa using hx)
theorem Sim.nils {C : Ctx} {M : Mem} {S : AState} {a : Act} {w : World} : ∀ {os : List (Nat × Own)} {E : Env}, (∀ p ∈ os, ∃ e s, p.2 = .vec e s [] ∨ p.2 = .dvec e s []) → (os.map (·.1)).Nodup → (∀ p ∈ os, S.fresh p.1 = true ∧ p.1 < given) → Sim C E M S a w →
  ∃ E', Sim C E' M { S with own := os.map (fun p => (p.1, some p.2)) ++ S.own } a w ∧ (∀ p ∈ os, E' p.1 = .slice none 0 0) ∧ ∀ m, m ∉ os.map (·.1) → E' m = E m
 | [], E, _, _, _, hs => ⟨E, hs, ⟨fun p hp => (by cases hp), fun _ _ => rfl⟩⟩
 | (n, o) :: os, E, h1, h2, h3, hs => by
  rw [List.map_cons, List.nodup_cons] at h2
  obtain ⟨E1, k1, k2, k3⟩ := Sim.nils (fun p hp => h1 p (List.mem_cons_of_mem _ hp)) h2.2 (fun p hp => h3 p (List.mem_cons_of_mem _ hp)) hs
  have hf := h3 _ List.mem_cons_self
  have hfr : AState.fresh { S with own := os.map (fun p => (p.1, some p.2)) ++ S.own } n = true := by
   have h0 := hf.1
   unfold AState.fresh at h0 ⊢
   simp only [Bool.and_eq_true] at h0 ⊢
   refine ⟨⟨?_, h0.1.2⟩, ?_⟩
   ·unfold AState.own? at h0 ⊢
    simp only
    have : gt os n = none := by
     cases hq : gt os n with
     | none => rfl
     | some x => exact absurd (List.mem_map.2 ⟨_, gt_mem hq, rfl⟩) h2.1
    have hg : gt (os.map (fun p => (p.1, some p.2)) ++ S.own) n = gt S.own n := by rw [gt_appS, this]
    rw [hg]; exact h0.1.1
   ·rw [List.all_append, Bool.and_eq_true]
    refine ⟨?_, h0.2⟩
    rw [List.all_map, List.all_eq_true]
    intro p hp
    obtain ⟨e, s, q | q⟩ := h1 p (List.mem_cons_of_mem _ hp)
    ·simp [q, Own.has]
    ·simp [q, Own.has]
  have k4 := k1.own_new (E' := fun m => if m = n then .slice none 0 0 else E1 m) (d := n) (o' := o) (w' := w) ⟨rfl, rfl, rfl, Nat.le_refl _, fun _ _ _ => rfl⟩ (fun m hm => by simp [hm]) hfr hf.2 (fun b hb => ?_) ?_
  ·refine ⟨_, k4, fun p hp => ?_, fun m hm => ?_⟩
   ·rcases List.mem_cons.1 hp with rfl | hp
    ·simp
    ·have : p.1 ≠ n := fun e => h2.1 (List.mem_map.2 ⟨p, hp, e⟩)
     simp only [if_neg this]; exact k2 p hp
   ·rw [List.map_cons, List.mem_cons] at hm
    have hmn : m ≠ n := fun e => hm (.inl e)
    simp only [if_neg hmn]; exact k3 m fun e => hm (.inr e)
  ·obtain ⟨e, s, q | q⟩ := h1 _ List.mem_cons_self
   ·simp only at q; subst q
    simp [Own.foot, blockOf] at hb
   ·simp only at q; subst q
    exact ((OwnOk.dmt (E := fun m => if m = n then .slice none 0 0 else E1 m) (M := M) (w := w) (m := n) (e := e) (sz := s) (by simp)).2 b hb).elim
  ·obtain ⟨e, s, q | q⟩ := h1 _ List.mem_cons_self
   ·simp only at q; subst q
    exact ⟨[], by simpa using World.ownsRow_nil w 0 e s, by simp, by simp, fun b hb => by simp [blockOf] at hb⟩
   ·simp only at q; subst q
    exact (OwnOk.dmt (E := fun m => if m = n then .slice none 0 0 else E1 m) (M := M) (w := w) (m := n) (e := e) (sz := s) (by simp)).1
theorem allD_vals : ∀ z : List Value, allD (z.map fun x => .d (.v x)) = some (z.map .v)
 | [] => rfl
 | x :: z => by simp [allD, allD_vals z]
theorem mkAgg_vals (z : List Value) : mkAgg (z.map fun x => .d (.v x)) = .d (.agg (z.map .v)) := by
 unfold mkAgg
 rw [allD_vals]
inductive DEff (P : Program) (nm : Nat → Nat) (o : Oper) (ρ : Operand → H) (ω : Nat → Option Own) : Eff → Prop
 | load {t : TypeId} {x : Operand} {m i s off e sz d : Nat} {ag : Bool} {rows : List (List DD)} {r ds : List DD} {hh : List H} {os os' : List (Nat × Own)} {val : H} (ho : o.op = .load t x) (hdst : o.dst = some d) (ht : tyLoad P t = some (ag, sz)) (hx : ρ x = .ep m s i off)
   (hm : ω m = some (.dvec e s rows)) (hr : rows[i]? = some r) (hrl : r.length = s) (hfit : off + loadW ag sz ≤ s) (htk : takeC (subN (nm d)) off ((r.drop off).take (loadW ag sz)) = some (hh, os, ds)) (hv : ag = true ∧ val = mkAgg hh ∨ ag = false ∧ hh = [val])
   (hp : PLe os os') (hnd : (os'.map (·.1)).Nodup) : DEff P nm o ρ ω { val := val, acc := [m], upd := (m, some (.dvec e s (rows.set i (List.replicate s .junk)))) :: os'.map (fun p => (p.1, some p.2)), new := os'.map (·.1) }
 | load0 {t : TypeId} {x : Operand} {m i s off e sz d : Nat} {ag : Bool} {rows : List (List DD)} {r : List DD} {hh : List H} {val : H} (ho : o.op = .load t x) (hdst : o.dst = some d) (ht : tyLoad P t = some (ag, sz)) (hx : ρ x = .ep m s i off)
   (hm : ω m = some (.dvec e s rows)) (hr : rows[i]? = some r) (hrl : r.length = s) (hfit : off + loadW ag sz ≤ s) (htk : takeC (subN (nm d)) off ((r.drop off).take (loadW ag sz)) = some (hh, [], (r.drop off).take (loadW ag sz))) (hv : ag = true ∧ val = mkAgg hh ∨ ag = false ∧ hh = [val]) :
   DEff P nm o ρ ω { val := val, acc := [m] }
 | store {t : TypeId} {x y : Operand} {m i s e : Nat} {ag : Bool} {rows : List (List DD)} {r : List DD} {l : List (H × DD × Option Nat)} (ho : o.op = .store t x y) (ht : tyLoad P t = some (ag, s)) (hx : ρ x = .ep m s i 0) (hm : ω m = some (.dvec e s rows)) (hr : rows[i]? = some r)
   (hc : (ρ y).cells = some (l.map fun p => p.1)) (hl : l.length = s) (hone : (l.map fun p => p.1).all H.one = true) (hg : ∀ p ∈ l, GiveW ω p.1 p.2.1 p.2.2) (hnd : (optL (l.map fun p => p.2.2)).Nodup) (hmn : m ∉ optL (l.map fun p => p.2.2)) :
   DEff P nm o ρ ω { val := .junk, acc := m :: optL (l.map fun p => p.2.2), upd := (m, some (.dvec e s (rows.set i (l.map fun p => p.2.1)))) :: (optL (l.map fun p => p.2.2)).map fun n => (n, none) }
 | index {t : TypeId} {x i : Operand} {m len e e' sz sz' by_ : Nat} {kk : IntKind} {n : Int} {rows : List (List DD)} (ho : o.op = .indexAddr t x i) (ht : elemTy P t = some (e', sz, by_)) (hx : ρ x = .vh m len) (hi : ρ i = .d (.v (.int kk n))) (hm : ω m = some (.dvec e sz' rows))
   (h0 : 0 ≤ n) (h1 : n < len) : DEff P nm o ρ ω { val := .ep m sz n.toNat 0, acc := [m] }
 | append {c : Call} {p q : Operand} {d e sz bytes n2 : Nat} {t : TypeId} {rows news : List (List DD)} {ns : List Nat} (ho : o.op = .call c) (hc : c.callee = .builtin .append) (hargs : c.args = #[p, q]) (hty : c.argTypes = #[t, t]) (hdst : o.dst = some d) (ht : elemTy P t = some (e, sz, bytes))
   (hp : (∃ n, ρ p = .vh n rows.length ∧ ω n = some (.dvec e sz rows) ∧ n ≠ n2 ∧ ns = [n, n2]) ∨ ρ p = .d (.v (.slice none 0 0)) ∧ rows = [] ∧ ns = [n2]) (hq : ρ q = .vh n2 news.length) (hn2 : ω n2 = some (.dvec e sz news)) (hone : news.flatten.all DD.one = true)
   (hby : (rows.length + news.length) * bytes ≤ 140737488355328) (hle : rows.length + news.length ≤ 1000000000000) :
   DEff P nm o ρ ω { val := .vh (nm d) (rows.length + news.length), acc := ns, upd := (nm d, some (.dvec e sz (rows ++ news))) :: ns.map (fun n => (n, none)), new := [nm d] }
 | build {t : TypeId} {x : Operand} {d e sz by_ : Nat} {l : List (H × DD × Option Nat)} (ho : o.op = .buildSlice t 1 #[(0, x)]) (hdst : o.dst = some d) (ht : elemTy P t = some (e, sz, by_)) (hsm : sz ≤ 16777216) (hc : (ρ x).cells = some (l.map fun p => p.1)) (hl : l.length = sz)
   (hg : ∀ p ∈ l, GiveW ω p.1 p.2.1 p.2.2) (hnd : (optL (l.map fun p => p.2.2)).Nodup) :
   DEff P nm o ρ ω { val := .vh (nm d) 1, acc := optL (l.map fun p => p.2.2), upd := (nm d, some (.dvec e sz [l.map fun p => p.2.1])) :: (optL (l.map fun p => p.2.2)).map (fun n => (n, none)), new := [nm d] }
 | cut {t : TypeId} {x : Operand} {lo hi : Option Operand} {m e e' sz by_ : Nat} {l h : Int} {rows : List (List D)} (ho : o.op = .slice t x lo hi none) (ht : elemTy P t = some (e', sz, by_)) (hx : ρ x = .vh m rows.length)
   (hm : ω m = some (.vec e sz rows)) (hne : rows ≠ []) (hl : bnd ρ lo 0 = some l) (hh : bnd ρ hi rows.length = some h) (h0 : 0 ≤ l) (h1 : l ≤ h) (h2 : h ≤ rows.length) : DEff P nm o ρ ω { val := .sv m sz l.toNat (h.toNat - l.toNat), acc := [m] }
 | join {c : Call} {p q : Operand} {d e sz bytes m i j : Nat} {t : TypeId} {rows : List (List D)} (ho : o.op = .call c) (hc : c.callee = .builtin .append) (hargs : c.args = #[p, q]) (hty : c.argTypes = #[t, t]) (hdst : o.dst = some d)
   (ht : elemTy P t = some (e, sz, bytes)) (hp : ρ p = .sv m sz 0 i) (hq : ρ q = .sv m sz j (rows.length - j)) (hm : ω m = some (.vec e sz rows)) (hij : i ≤ j) (hj : j ≤ rows.length) (hone : rows.all (fun r => r.all D.one) = true) :
   DEff P nm o ρ ω { val := .vh (nm d) (i + (rows.length - j)), acc := [m], upd := [(nm d, some (.vec e sz (rows.take i ++ rows.drop j))), (m, none)], new := [nm d] }
 | nils {t : TypeId} {d : Nat} {z : List Value} {pl : List (Nat × Nat)} {hh : List H} {os : List (Nat × Own)} (ho : o.op = .build t #[]) (hdst : o.dst = some d) (hz : zeroD P t = some z) (hpl : places P t = some pl) (hn : NilL z hh os) (hnd : (os.map (·.1)).Nodup) :
   DEff P nm o ρ ω { val := mkAgg hh, acc := [], upd := os.map (fun p => (p.1, some p.2)), new := os.map (·.1) }
theorem bndL_congr {ρ ρ' : Operand → H} {lo : Option Operand} {d : Int} (h : ∀ x ∈ lo.toArray, ρ' x = ρ x) : bnd ρ' lo d = bnd ρ lo d := by
 cases lo with
 | none => rfl
 | some x => simp only [bnd, h x (by simp)]
theorem DEff.congr {P : Program} {nm : Nat → Nat} {o : Oper} {ρ ρ' : Operand → H} {ω ω' : Nat → Option Own} {e : Eff} (hρ : ∀ x ∈ o.op.operands, ρ' x = ρ x) (hω : ∀ n ∈ e.acc, ω' n = ω n) (h : DEff P nm o ρ ω e) : DEff P nm o ρ' ω' e := by
 cases h with
 | load ho hdst ht hx hm hr hrl hfit htk hv hp hnd =>
  simp only [ho, Op.operands] at hρ
  exact .load ho hdst ht (by rw [hρ _ (by simp)]; exact hx) (by rw [hω _ (by simp)]; exact hm) hr hrl hfit htk hv hp hnd
 | load0 ho hdst ht hx hm hr hrl hfit htk hv =>
  simp only [ho, Op.operands] at hρ
  exact .load0 ho hdst ht (by rw [hρ _ (by simp)]; exact hx) (by rw [hω _ (by simp)]; exact hm) hr hrl hfit htk hv
 | store ho ht hx hm hr hc hl hone hg hnd hmn =>
  simp only [ho, Op.operands] at hρ
  exact .store ho ht (by rw [hρ _ (by simp)]; exact hx) (by rw [hω _ (by simp)]; exact hm) hr (by rw [hρ _ (by simp)]; exact hc) hl hone (fun p hp => (hg p hp).congr fun k hk => hω k (List.mem_cons_of_mem _ (optL_mem (by rw [← hk]; exact List.mem_map_of_mem hp)))) hnd hmn
 | index ho ht hx hi hm h0 h1 =>
  simp only [ho, Op.operands] at hρ
  exact .index ho ht (by rw [hρ _ (by simp)]; exact hx) (by rw [hρ _ (by simp)]; exact hi) (by rw [hω _ (by simp)]; exact hm) h0 h1
 | @append c p q d e sz bytes n2 t rows news ns ho hc hargs hty hdst ht hp hq hn2 hone hby hle =>
  simp only [ho, Op.operands, Call.operands, hc, hargs] at hρ
  have hn2s : n2 ∈ ns := by
   rcases hp with ⟨n, _, _, _, rfl⟩ | ⟨_, _, rfl⟩
   ·simp
   ·simp
  refine .append ho hc hargs hty hdst ht ?_ (by rw [hρ _ (by simp)]; exact hq) (by rw [hω n2 hn2s]; exact hn2) hone hby hle
  rcases hp with ⟨n, h1, h2, h3, rfl⟩ | ⟨h1, h2, h3⟩
  ·exact .inl ⟨n, by rw [hρ _ (by simp)]; exact h1, by rw [hω n (by simp)]; exact h2, h3, rfl⟩
  ·exact .inr ⟨by rw [hρ _ (by simp)]; exact h1, h2, h3⟩
 | build ho hdst ht hsm hc hl hg hnd =>
  simp only [ho, Op.operands] at hρ
  exact .build ho hdst ht hsm (by rw [hρ _ (by simp)]; exact hc) hl (fun p hp => (hg p hp).congr fun k hk => hω k (optL_mem (by rw [← hk]; exact List.mem_map_of_mem hp))) hnd
 | @cut t x lo hi m e e' sz by_ l h rows ho ht hx hm hne hl hh h0 h1 h2 =>
  simp only [ho, Op.operands] at hρ
  exact .cut ho ht (by rw [hρ x (by simp)]; exact hx) (by rw [hω _ (by simp)]; exact hm) hne (by rw [bndL_congr fun y hy => hρ y (by simp [hy])]; exact hl) (by rw [bndL_congr fun y hy => hρ y (by simp [hy])]; exact hh) h0 h1 h2
 | join ho hc hargs hty hdst ht hp hq hm hij hj hone =>
  simp only [ho, Op.operands, Call.operands, hc, hargs] at hρ
  exact .join ho hc hargs hty hdst ht (by rw [hρ _ (by simp)]; exact hp) (by rw [hρ _ (by simp)]; exact hq) (by rw [hω _ (by simp)]; exact hm) hij hj hone
 | nils ho hdst hz hpl hn hnd => exact .nils ho hdst hz hpl hn hnd
def BVal (P : Program) (nm : Nat → Nat) (o : Oper) (ρ : Operand → H) (ω : Nat → Option Own) (k : Eff → Prop) : Prop := AVal P nm o ρ ω k ∨ ∃ e, DEff P nm o ρ ω e ∧ k e
section
variable {C : Ctx} {E : Env} {M : Mem} {S : AState} {a : Act} {w : World} {nm : Nat → Nat} {o : Oper} {K : Act → World → Prop} {Q : Exit → Act → World → Prop} (hd : ∀ d, o.dst = some d → C.wr d)
include hd
theorem DEff.ok {e : Eff} (h : DEff C.P nm o (Go.Awp.ev S) S.own? e) (hs : Sim C E M S a w) (hf : ∀ d ∈ e.new, S.fresh d = true ∧ d < given) (hK : ∀ E' M' a' w', Sim C E' M' (S.app o.dst e) a' w' → K a' w') : o.wp C.P a w K Q := by
 cases h with
 | @load t x m i s off e sz d ag rows r ds hh os os' val ho hdst ht hx hm hr hrl hfit htk hv hp hnd =>
  have hall : r = r.take off ++ (r.drop off).take (loadW ag sz) ++ (r.drop off).drop (loadW ag sz) := by
   rw [List.append_assoc, List.take_append_drop, List.take_append_drop]
  have hml : ((r.drop off).take (loadW ag sz)).length = loadW ag sz := by simp; omega
  obtain ⟨c1, c2⟩ := takeC_len htk
  rw [hml] at c1 c2
  refine wp_loadD (nf := subN (nm d)) (val := val) hd ho hs ht hx hm hr hall (by simp; omega) ?_ htk (fun p hp' => ?_) (by rw [hp.names]; exact hnd) fun E' a' hs' => hK E' M a' w ?_
  ·rcases hv with ⟨rfl, rfl⟩ | ⟨rfl, rfl⟩
   ·exact .inl ⟨rfl, hml, rfl⟩
   ·exact .inr ⟨rfl, val, rfl, rfl⟩
  ·exact hf p.1 (by show p.1 ∈ os'.map (·.1); rw [← hp.names]; exact List.mem_map_of_mem hp')
  ·refine hs'.ole rfl fun k o' hk => ?_
   simp only [AState.own?, AState.app, List.cons_append, gt_cons] at hk ⊢
   by_cases q1 : m = k
   ·rw [if_pos q1] at hk ⊢
    simp only [Option.getD_some, Option.some.injEq] at hk ⊢
    subst hk
    refine ⟨_, rfl, OLe.dweak (by simp) fun q r1 r2 h1 h2 => ?_⟩
    rw [List.getElem?_set] at h1 h2
    have hil := (List.getElem?_eq_some_iff.1 hr).1
    by_cases hq : i = q
    ·subst hq
     rw [if_pos rfl, if_pos hil] at h1 h2
     cases h1; cases h2
     refine ⟨by simp; omega, fun k x hx => .inl ?_⟩
     rw [List.getElem?_replicate] at hx
     split at hx
     ·cases hx; rfl
     ·cases hx
    ·rw [if_neg hq] at h1 h2
     rw [h1] at h2; cases h2
     exact ⟨rfl, fun k x hx => .inr hx⟩
   ·rw [if_neg q1] at hk ⊢
    rw [gt_appS] at hk ⊢
    cases hq : gt os' k with
    | some o2 =>
     rw [hq] at hk
     simp only [Option.getD_some, Option.some.injEq] at hk
     subst hk
     obtain ⟨o3, k1, k2⟩ := hp.gt hq
     exact ⟨o3, by rw [k1]; rfl, k2⟩
    | none =>
     rw [hq] at hk
     rw [hp.gtNone hq]
     exact ⟨o', hk, OLe.refl _⟩
 | @load0 t x m i s off e sz d ag rows r hh val ho hdst ht hx hm hr hrl hfit htk hv =>
  have hall : r = r.take off ++ (r.drop off).take (loadW ag sz) ++ (r.drop off).drop (loadW ag sz) := by
   rw [List.append_assoc, List.take_append_drop, List.take_append_drop]
  have hml : ((r.drop off).take (loadW ag sz)).length = loadW ag sz := by simp; omega
  refine wp_loadD (nf := subN (nm d)) (val := val) hd ho hs ht hx hm hr hall (by simp; omega) ?_ htk (fun p hp' => by cases hp') (by simp) fun E' a' hs' => hK E' M a' w ?_
  ·rcases hv with ⟨rfl, rfl⟩ | ⟨rfl, rfl⟩
   ·exact .inl ⟨rfl, hml, rfl⟩
   ·exact .inr ⟨rfl, val, rfl, rfl⟩
  ·refine hs'.weaken (fun t x hx => .inl hx) fun k o' hk => ?_
   simp only [AState.own?, AState.app, List.map_nil, List.nil_append, List.cons_append, gt_cons] at hk ⊢
   by_cases q1 : m = k
   ·subst q1
    rw [if_pos rfl]
    have : S.own? m = some o' := hk
    rw [hm] at this; cases this
    rw [← hall]
    have : rows.set i r = rows := by
     apply List.ext_getElem?
     intro q
     rw [List.getElem?_set]
     split
     ·rename_i hq; subst hq
      have hil := (List.getElem?_eq_some_iff.1 hr).1
      first | exact hr.symm | (rw [if_pos hil]; exact hr.symm)
     ·rfl
    rw [this]; rfl
   ·rw [if_neg q1]; exact hk
 | store ho ht hx hm hr hc hl hone hg hnd hmn => exact wp_storeD hd ho hs ht hx hm hr hc hl hone (fun p hp => (hg p hp).to) hnd hmn fun a' w' hs' => hK E M a' w' hs'
 | index ho ht hx hi hm h0 h1 => exact wp_indexD hd ho hs ht hx hi hm h0 h1 fun a' hs' => hK E M a' w hs'
 | append ho hc hargs hty hdst ht hp hq hn2 hone hby hle =>
  refine wp_appendD (nm := nm) hd ho hc hargs hty hdst hs ht hp hq hn2 hone hby hle (hf _ (by simp)) fun E' a' w' hs' => hK E' M a' w' ?_
  rw [hdst]; exact hs'
 | build ho hdst ht hsm hc hl hg hnd =>
  refine wp_buildD (nm := nm) hd ho hdst hs ht hsm hc hl (fun p hp => (hg p hp).to) hnd (hf _ (by simp)) fun E' a' w' hs' => hK E' M a' w' ?_
  rw [hdst]; exact hs'
 | cut ho ht hx hm hne hl hh h0 h1 h2 => exact wp_cut hd ho hs ht hx hm hne hl hh h0 h1 h2 fun a' hs' => hK E M a' w hs'
 | join ho hc hargs hty hdst ht hp hq hm hij hj hone =>
  refine wp_join (nm := nm) hd ho hc hargs hty hdst hs ht hp hq hm hij hj hone (hf _ (by simp)) fun E' a' w' hs' => hK E' M a' w' ?_
  rw [hdst]; exact hs'
 | @nils t d z pl hh os ho hdst hz hpl hn hnd =>
  refine ok_build (nm := nm) hd ho E M S a w K Q (fun e => e = { val := mkAgg (z.map fun x => .d (.v x)) }) hs ?_ fun e E' M' a' w' he hs' => ?_
  ·simp only [AVal, ho, hz, hpl, List.map_nil, fillH]
   exact ⟨fun d hd => (by cases hd), trivial⟩
  ·subst he
   rw [mkAgg_vals, hdst] at hs'
   have hfr : ∀ p ∈ os, (S.app (some d) { val := .d (.agg (z.map .v)) }).fresh p.1 = true ∧ p.1 < given := fun p hp => by
    obtain ⟨h1, h2⟩ := hf p.1 (List.mem_map_of_mem hp)
    refine ⟨?_, h2⟩
    unfold AState.fresh at h1 ⊢
    simp only [Bool.and_eq_true] at h1 ⊢
    refine ⟨⟨h1.1.1, ?_⟩, h1.2⟩
    simp only [AState.app, putT, List.all_cons, Bool.and_eq_true]
    exact ⟨by simp [H.has], h1.1.2⟩
   obtain ⟨E2, k1, k2, k3⟩ := Sim.nils hn.own hnd hfr hs'
   refine hK E2 M' a' w' ?_
   rw [hdst]
   refine { k1 with tmps := fun t' x hx => ?_ }
   simp only [AState.app, putT, gt_cons] at hx
   by_cases htt : d = t'
   ·subst htt
    rw [if_pos rfl] at hx
    cases hx
    obtain ⟨v, hv, hr⟩ := k1.tmps d (.d (.agg (z.map .v))) (by simp [AState.app, putT, gt_cons])
    refine ⟨v, hv, ?_⟩
    cases hr with
    | d hr =>
     cases hr with
     | agg cs l hl h =>
      have hcs : cs.size = hh.length := by rw [hl, List.length_map]; exact hn.len
      refine HRep.mk_agg hcs fun i c x hc hx => ?_
      refine hn.rep k2 i c x ?_ hx
      have hil : i < z.length := by
       have := (Array.getElem?_eq_some_iff.1 hc).1
       rw [hn.len]; omega
      have := h i c (.v z[i]) hc (by rw [List.getElem?_map, List.getElem?_eq_getElem hil]; rfl)
      cases this
      exact List.getElem?_eq_getElem hil
   ·rw [if_neg htt] at hx
    exact k1.tmps t' x (by simp only [AState.app, putT, gt_cons]; rw [if_neg htt]; exact hx)
theorem BVal.ok {k : Eff → Prop} (hs : Sim C E M S a w) (hv : BVal C.P nm o (Go.Awp.ev S) S.own? (fun e => (∀ d ∈ e.new, S.fresh d = true ∧ d < given) ∧ k e)) (hK : ∀ e E' M' a' w', k e → Sim C E' M' (S.app o.dst e) a' w' → K a' w') : o.wp C.P a w K Q := by
 rcases hv with hv | ⟨e, h1, h2, h3⟩
 ·exact ok_all hd E M S a w K Q k hs hv hK
 ·exact h1.ok hd hs h2 fun E' M' a' w' hs' => hK e E' M' a' w' h3 hs'
end
end Go.Awp
end
