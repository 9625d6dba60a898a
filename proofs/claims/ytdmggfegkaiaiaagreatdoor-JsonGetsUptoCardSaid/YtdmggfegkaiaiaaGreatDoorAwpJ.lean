/-
  The logic of abstract states: single operations are sound, seventh part: builtins and calls; all of them.
-/
import Derived.Test.YtdmggfegkaiaiaaGreatDoorAwpI
import Derived.MapKept
import Derived.Lib.AppendStr
import Derived.Lib.UnsafeStr
import Derived.Lib.FrozenHead
namespace Go.Awp
set_option linter.unusedSectionVars false
variable [Inhabited GMem]

/-- An append to a slice that is owned: where the new one lies. -/
theorem run_append_at {P : Program} {w : World} (t ty e : TypeId) (i : TypeInfo) (z : Value) (size bytes : Nat) (ht : P.underlying t = some (.slice e)) (hi : P.info? e = some i) (hz : i.zero = some z)
    (hsize : i.size = size) (hby : i.bytes = bytes) (hzs : z.cells.size = size) (hsz : 0 < size) (v : Value) (n : Nat) (xs : List Value) (hown : w.ownsRow 0 e size v n xs)
    (x : Value) (news : List Value) (m : Nat) (hl : news.length = m * size) (hx : (x = .slice none 0 0 ∧ m = 0) ∨ ∃ a c, x = .slice (some a) m c ∧ ∀ (j : Nat) u, news[j]? = some u → w.cell? (a.add j) = some u)
    (h1 : ∀ u ∈ news, u.oneCell' = true) (h63 : n + m ≤ 1000000000000) (hbytes : (n + m) * bytes ≤ 140737488355328) :
    ∃ v' w', (Builtin.append_ #[t, t] ty #[v, x]).run P w = .ok v' w' ∧ w'.ownsRow 0 e size v' (n + m) (xs ++ news) ∧ w.grownBy w' (blockOf v) ∧
      ∀ b, blockOf v' = some b → blockOf v = some b ∨ w.heap.size ≤ b := by
  have hb : blockOf v = v.ownBlock := by
    rcases hown.2 with ⟨rfl, _⟩ | ⟨g, cap, cur, rfl, _⟩ <;> rfl
  rcases hx with ⟨rfl, rfl⟩ | ⟨a, c, rfl, hnews⟩
  · have hn0 : news = [] := List.eq_nil_of_length_eq_zero (by simpa using hl)
    subst hn0
    refine ⟨v, w, run_append_owned_none (P := P) w 0 t ty e i size ht hi v n xs hown, by simpa using hown, ⟨rfl, rfl, rfl, Nat.le_refl _, fun _ _ _ => rfl⟩, fun b hb => .inl hb⟩
  · have hmax : n + m ≤ maxLen := by unfold maxLen; omega
    obtain ⟨v', w', e1, e2, e3, _⟩ := run_append_own (P := P) w 0 t ty e i z size bytes ht hi hz hsize hby hzs hsz v n xs hown a m c news hl hnews h1 hmax hbytes (Nat.zero_le _)
    refine ⟨v', w', e1, e2, by rw [hb]; exact e3, fun b hbv => ?_⟩
    rcases hown.2 with ⟨rfl, rfl⟩ | ⟨g, cap, cur, rfl, hbg, hg, hnc, hcm, hcs, htake⟩
    · obtain ⟨v2, w2, f1, f2, _⟩ := run_append_own (P := P) w w.heap.size t ty e i z size bytes ht hi hz hsize hby hzs hsz (.slice none 0 0) 0 [] (World.ownsRow_nil w _ e size) a m c news hl hnews h1 hmax hbytes (Nat.le_refl _)
      rw [e1] at f1
      simp only [Result.ok.injEq] at f1
      obtain ⟨rfl, rfl⟩ := f1
      right
      rcases f2.2 with ⟨hn, _⟩ | ⟨g2, cap2, cur2, hv2, hb2, _⟩
      · rw [hn] at hbv; simp [blockOf] at hbv
      · rw [hv2] at hbv; simp [blockOf] at hbv; omega
    · by_cases hroom : n + m ≤ cap
      · obtain ⟨w2, f1, _⟩ := run_append_fits (P := P) w 0 t ty e i size ht hi hsize g n cap xs hown a m c news hl hnews h1 hroom
        rw [e1] at f1
        simp only [Result.ok.injEq] at f1
        obtain ⟨rfl, _⟩ := f1
        left; simpa [blockOf] using hbv
      · subst hsize; subst hby
        have holds : ∀ j u, xs[j]? = some u → w.cell? ((⟨g, 0, none⟩ : Addr).add j) = some u := hown.cells (g := g) rfl
        have f1 := run_append_grow (P := P) w t ty e i z ht hi hz ⟨g, 0, none⟩ n cap xs hown.1 holds a m c news hl hnews (by omega) (by omega) (growslice_fits (by omega) hbytes)
        rw [e1] at f1
        simp only [Result.ok.injEq] at f1
        obtain ⟨rfl, _⟩ := f1
        right; simp [blockOf] at hbv; omega

theorem rows_flat {sz : Nat} : ∀ {rows : List (List D)}, (∀ r ∈ rows, r.length = sz) → rows.flatten.length = rows.length * sz
  | [], _ => by simp
  | r :: rest, h => by
    have := rows_flat (rows := rest) (sz := sz) fun q hq => h q (List.mem_cons_of_mem _ hq)
    simp [this, h r List.mem_cons_self, Nat.add_mul]; omega

/-- The cells of a readonly slice of data. -/
theorem DRep.sl_cells {M : Mem} {v : Value} {sz : Nat} {rows : List (List D)} (h : DRep M v (.sl sz rows)) :
    (v = .slice none 0 0 ∧ rows = []) ∨ (∃ a cap, v = .slice (some a) 0 cap ∧ rows = []) ∨ ∃ b off cap, v = .slice (some ⟨b, off, none⟩) rows.length cap ∧ rows.length ≤ cap ∧ ∃ cs : List Value, cs.length = rows.length * sz ∧
      (∀ (k : Nat) u, cs[k]? = some u → M b (off + k) = some u) ∧ (∀ r ∈ rows, r.length = sz) ∧
      ∀ (i j : Nat) (r : List D) (c : Value) (x : D), rows[i]? = some r → r[j]? = some x → cs[i * sz + j]? = some c → DRep M c x := by
  cases h with
  | slnil sz => exact .inl ⟨rfl, rfl⟩
  | slmt a cap sz => exact .inr (.inl ⟨a, cap, rfl, rfl⟩)
  | sl b off len cap sz rows c hlen hcap hsz hm hc =>
    subst hlen
    refine .inr (.inr ⟨b, off, cap, rfl, hcap, (List.range (rows.length * sz)).map c, by simp, fun k u hu => ?_, hsz, fun i j r c' x hr hx hcc => ?_⟩)
    · simp only [List.getElem?_map] at hu
      by_cases hk : k < rows.length * sz
      · rw [List.getElem?_range hk] at hu
        simp at hu; subst hu; exact hm k hk
      · rw [List.getElem?_eq_none (by simp; omega)] at hu; cases hu
    · simp only [List.getElem?_map] at hcc
      by_cases hk : i * sz + j < rows.length * sz
      · rw [List.getElem?_range hk] at hcc
        simp at hcc; subst hcc; exact hc i j r x hr hx
      · rw [List.getElem?_eq_none (by simp; omega)] at hcc; cases hcc

theorem run_checkKey_simple {P : Program} {w : World} {kt : TypeId} {kind : TypeDesc} (hu : P.underlying kt = some kind) (hs : simpleKey kind = true) (e : Bool) (v : Value) : (Instr.checkKey e 10000 kt v).run P w = .ok () w := by
  unfold Instr.checkKey
  simp only [Sem.run_bind, run_underlying hu, Result.andThen_ok]
  cases kind <;> simp [simpleKey] at hs <;> rfl

/-- Entries that stand for pairs. -/
def MRep (M : Mem) : List MapEntry → List (Value × D) → Prop
  | [], [] => True
  | e :: r, p :: s => (e.key = p.1 ∧ DRep M e.val p.2) ∧ MRep M r s
  | _, _ => False

theorem MRep.of {M : Mem} : ∀ {l : List MapEntry} {es : List (Value × D)}, l.length = es.length → (∀ (i : Nat) (e : MapEntry) (p : Value × D), l[i]? = some e → es[i]? = some p → e.key = p.1 ∧ DRep M e.val p.2) → MRep M l es
  | [], [], _, _ => trivial
  | [], _ :: _, h, _ => by simp at h
  | _ :: _, [], h, _ => by simp at h
  | e :: r, p :: s, h, hp => ⟨hp 0 e p rfl rfl, MRep.of (by simpa using h) fun i e' p' he hp' => hp (i + 1) e' p' (by simpa using he) (by simpa using hp')⟩

theorem MRep.get {M : Mem} : ∀ {l : List MapEntry} {es : List (Value × D)}, MRep M l es → l.length = es.length ∧ ∀ (i : Nat) (e : MapEntry) (p : Value × D), l[i]? = some e → es[i]? = some p → e.key = p.1 ∧ DRep M e.val p.2
  | [], [], _ => ⟨rfl, fun i e p he => by simp at he⟩
  | [], _ :: _, h => h.elim
  | _ :: _, [], h => h.elim
  | e :: r, p :: s, h => by
    obtain ⟨h1, h2⟩ := h.2.get
    refine ⟨by simp [h1], fun i e' p' he hp => ?_⟩
    cases i with
    | zero => simp at he hp; subst he; subst hp; exact h.1
    | succ i => exact h2 i e' p' (by simpa using he) (by simpa using hp)

theorem findM_spec {M : Mem} {kind : TypeDesc} {key : Value} : ∀ {l : List MapEntry} {es : List (Value × D)} {q : Option D} (i : Nat), MRep M l es → findM kind key es = some q →
    (q = none ∧ Instr.findNow kind key l i = some none) ∨ ∃ j v d, q = some d ∧ Instr.findNow kind key l i = some (some (j, v)) ∧ DRep M v d
  | [], [], q, i, _, h => by simp [findM] at h; subst h; exact .inl ⟨rfl, rfl⟩
  | [], _ :: _, _, _, hr, _ => hr.elim
  | _ :: _, [], _, _, hr, _ => hr.elim
  | e :: r, p :: s, q, i, hr, h => by
    obtain ⟨⟨hk, hv⟩, hr'⟩ := hr
    simp only [findM] at h
    simp only [Instr.findNow, hk]
    split at h
    · rename_i hs
      simp at h; subst h
      rw [hs]
      exact .inr ⟨i, e.val, p.2, rfl, rfl, hv⟩
    · rename_i hs
      rw [hs]
      exact findM_spec (i + 1) hr' h
    · cases h

theorem setM_spec {M : Mem} {kind : TypeDesc} {key : Value} {x : D} : ∀ {l : List MapEntry} {es es' : List (Value × D)} (i : Nat), MRep M l es → setM kind key x es = some es' →
    (es' = es ++ [(key, x)] ∧ Instr.findNow kind key l i = some none) ∨ ∃ (j : Nat) (v : Value) (e : MapEntry), Instr.findNow kind key l i = some (some (i + j, v)) ∧ l[j]? = some e ∧ Instr.sameNow kind key e.key = some true ∧ es' = es.set j (key, x) ∧ j < es.length
  | [], [], es', i, _, h => by simp [setM] at h; subst h; exact .inl ⟨rfl, rfl⟩
  | [], _ :: _, _, _, hr, _ => hr.elim
  | _ :: _, [], _, _, hr, _ => hr.elim
  | e :: r, p :: s, es', i, hr, h => by
    obtain ⟨⟨hk, hv⟩, hr'⟩ := hr
    simp only [setM] at h
    simp only [Instr.findNow, hk]
    split at h
    · rename_i hs
      simp at h; subst h
      rw [hs]
      exact .inr ⟨0, e.val, e, rfl, rfl, by rw [hk]; exact hs, rfl, by simp⟩
    · rename_i hs
      rw [hs]
      split at h
      · rename_i l' hl
        simp at h; subst h
        rcases setM_spec (i + 1) hr' hl with ⟨h1, h2⟩ | ⟨j, v, e', h1, h2, h3, h4, h5⟩
        · exact .inl ⟨by rw [h1]; rfl, h2⟩
        · refine .inr ⟨j + 1, v, e', ?_, by simpa using h2, h3, by rw [h4]; rfl, by simpa using h5⟩
          simp only
          rw [h1]
          have : i + 1 + j = i + (j + 1) := by omega
          rw [this]
      · cases h
    · cases h

theorem sameBits_of {kind : TypeDesc} {a b : Value} (h : Instr.sameNow kind a b = some true) : Instr.sameBits 10000 b a = true := by
  unfold Instr.sameNow at h
  split at h
  · rename_i k x k' y
    split at h
    · rename_i hk
      subst hk
      have : x = y := by simpa using h
      subst this
      simp [Instr.sameBits]
    · cases h
  · rename_i x y
    have : x = y := (MapKept.bytes_beq x y).1 (by simpa using h)
    subst this
    simp [Instr.sameBits, (MapKept.bytes_beq _ _).2 rfl]
  · rename_i x y
    have : x = y := by simpa using h
    subst this
    simp [Instr.sameBits]
  · cases h

theorem zeroX_spec {P : Program} {t : TypeId} {z : D} (h : zeroX P t = some z) : ∃ v, (∀ w, (zeroValue t).run P w = .ok v w) ∧ ∀ M, DRep M v z := by
  unfold zeroX at h
  split at h
  · rename_i i hi
    split at h
    · rename_i cs hz
      simp at h; subst h
      refine ⟨.agg cs, fun w => by simp only [zeroValue, typeInfo, program, Sem.run_bind, Sem.run, hi, hz, Result.andThen_ok, Sem.run_pure], fun M => .agg cs _ (by simp) fun k c x hc hx => ?_⟩
      rw [List.getElem?_map, Option.map_eq_some_iff] at hx
      obtain ⟨y, hy, rfl⟩ := hx
      have : cs[k]? = some y := by simpa using hy
      rw [hc] at this; cases this
      exact .v _
    · rename_i v _ hz
      simp at h; subst h
      exact ⟨v, fun w => by simp only [zeroValue, typeInfo, program, Sem.run_bind, Sem.run, hi, hz, Result.andThen_ok, Sem.run_pure], fun M => .v v⟩
    · cases h
  · cases h

theorem argKind_slice {P : Program} {l : Array TypeId} (h : argKind P l.toList = 2) : ∃ t e, l[0]? = some t ∧ P.underlying t = some (.slice e) := by
  obtain ⟨l⟩ := l
  cases l with
  | nil => simp [argKind] at h
  | cons t r =>
    refine ⟨t, ?_⟩
    simp only [argKind] at h
    split at h <;> first | (simp at h; done) | (rename_i e he; exact ⟨e, rfl, he⟩)

theorem argKind_string {P : Program} {l : Array TypeId} (h : argKind P l.toList = 1) : ∃ t, l[0]? = some t ∧ P.underlying t = some .string := by
  obtain ⟨l⟩ := l
  cases l with
  | nil => simp [argKind] at h
  | cons t r =>
    refine ⟨t, ?_⟩
    simp only [argKind] at h
    split at h <;> first | (simp at h; done) | (rename_i he; exact ⟨rfl, he⟩)

theorem argKind_map {P : Program} {l : Array TypeId} (h : argKind P l.toList = 3) : ∃ t a b, l[0]? = some t ∧ P.underlying t = some (.map a b) := by
  obtain ⟨l⟩ := l
  cases l with
  | nil => simp [argKind] at h
  | cons t r =>
    refine ⟨t, ?_⟩
    simp only [argKind] at h
    split at h <;> first | (simp at h; done) | (rename_i a b he; exact ⟨a, b, rfl, he⟩)

theorem HReps.append {E : Env} {M : Mem} {vs us : Array Value} {l m : List H} (h : HReps E M vs l) (k : HReps E M us m) : HReps E M (vs ++ us) (l ++ m) := by
  refine ⟨by simp [h.1, k.1], fun i c x hc hx => ?_⟩
  by_cases hi : i < vs.size
  · rw [Array.getElem?_append_left hi] at hc
    rw [List.getElem?_append_left (by rw [← h.1]; exact hi)] at hx
    exact h.2 i c x hc hx
  · rw [Array.getElem?_append_right (by omega)] at hc
    rw [List.getElem?_append_right (by rw [← h.1]; omega), ← h.1] at hx
    exact k.2 _ c x hc hx

theorem Sim.args {C : Ctx} {E : Env} {M : Mem} {S : AState} {a : Act} {w : World} (hs : Sim C E M S a w) (l : Array Operand) : HReps E M (l.map a.eval) (l.toList.map (Go.Awp.ev S)) := by
  refine ⟨by simp, fun i c x hc hx => ?_⟩
  simp only [Array.getElem?_map, List.getElem?_map, Array.getElem?_toList] at hc hx
  cases hl : l[i]? with
  | none => rw [hl] at hc; cases hc
  | some y => rw [hl] at hc hx; simp at hc hx; subst hc; subst hx; exact hs.ev y

theorem map_two {l : Array Operand} {ρ : Operand → H} {x y : H} (h : l.toList.map ρ = [x, y]) : ∃ p q, l = #[p, q] ∧ ρ p = x ∧ ρ q = y := by
  obtain ⟨l⟩ := l
  match l, h with
  | [p, q], h => simp at h; exact ⟨p, q, rfl, h.1, h.2⟩

theorem map_one {l : Array Operand} {ρ : Operand → H} {x : H} (h : l.toList.map ρ = [x]) : ∃ p, l = #[p] ∧ ρ p = x := by
  obtain ⟨l⟩ := l
  match l, h with
  | [p], h => simp at h; exact ⟨p, rfl, h⟩

theorem newNames_mem {own : List (Nat × Own)} : ∀ {own' : List (Nat × Own)} {n : Nat} {o : Own}, gt own' n = some o → gt own n = none → n ∈ newNames own own'
  | [], n, o, h, _ => by simp [gt] at h
  | (m, x) :: r, n, o, h, h0 => by
    rw [gt_cons] at h
    simp only [newNames]
    by_cases hm : m = n
    · subst hm; rw [h0]; exact List.mem_cons_self
    · rw [if_neg hm] at h
      have ih := newNames_mem h h0
      split
      · exact ih
      · exact List.mem_cons_of_mem _ ih

theorem gt_map_some (own : List (Nat × Own)) (n : Nat) : gt (own.map fun p => (p.1, some p.2)) n = (gt own n).map some := by
  induction own with
  | nil => rfl
  | cons p r ih => obtain ⟨k, o⟩ := p; simp only [List.map_cons, gt_cons]; by_cases h : k = n <;> simp [h, ih]

theorem gt_map_none (own : List (Nat × Own)) (n : Nat) : gt (own.map fun p => (p.1, (none : Option Own))) n = (gt own n).map fun _ => none := by
  induction own with
  | nil => rfl
  | cons p r ih => obtain ⟨k, o⟩ := p; simp only [List.map_cons, gt_cons]; by_cases h : k = n <;> simp [h, ih]

theorem gt_app {α : Type} : ∀ (l m : List (Nat × α)) (n : Nat), gt (l ++ m) n = match gt l n with | some x => some x | none => gt m n
  | [], m, n => rfl
  | (k, x) :: r, m, n => by
    simp only [List.cons_append, gt_cons]
    by_cases h : k = n
    · simp [h]
    · rw [if_neg h, if_neg h]; exact gt_app r m n

section
variable {C : Ctx} {nm : Nat → Nat} {o : Oper} (hd : ∀ d, o.dst = some d → d < C.N)
include hd

/-- Behind a call. -/
theorem Sim.called {E E' : Env} {M M' : Mem} {S : AState} {a : Act} {w w' : World} {own own' : List (Nat × Own)} {v : Value} {r : H} (hs : Sim C E M S a w) (hsub : ∀ n o, gt own n = some o → S.own? n = some o)
    (hp : FnPost E M own w v r own' E' M' w') (henv : ∀ n, (gt own' n = none ∨ ∃ o, gt own n = some o) → E' n = E n) (hnew : ∀ d ∈ newNames own own', S.fresh d = true ∧ d < given) :
    Sim C E' M' (S.app o.dst (callEff r own own')) (a.put o.dst v) w' := by
  have hE : ∀ m, S.fresh m = false → E' m = E m := by
    intro m hm
    refine henv m ?_
    cases h1 : gt own' m with
    | none => exact .inl rfl
    | some o1 =>
      right
      cases h2 : gt own m with
      | none => have := (hnew m (newNames_mem h1 h2)).1; rw [hm] at this; cases this
      | some o2 => exact ⟨o2, rfl⟩
  have hEt : ∀ t x, gt S.tmps t = some x → ∀ k, H.has k x = true → E' k = E k := by
    intro t x hx k hk
    refine hE k ?_
    cases hf : S.fresh k with
    | false => rfl
    | true => rw [AState.fresh_tmp hf hx] at hk; cases hk
  have hEo : ∀ m o, S.own? m = some o → ∀ k, Own.has k o = true → E' k = E k := by
    intro m o ho k hk
    refine hE k ?_
    cases hf : S.fresh k with
    | false => rfl
    | true => rw [AState.fresh_cell hf ho] at hk; cases hk
  have hEown : ∀ m o, S.own? m = some o → E' m = E m := by
    intro m o ho
    refine hE m ?_
    cases hf : S.fresh m with
    | false => rfl
    | true => rw [AState.fresh_own hf] at ho; cases ho
  let S1 : AState := { S with own := own'.map (fun p => (p.1, some p.2)) ++ own.map (fun p => (p.1, none)) ++ S.own }
  have hold : ∀ m o, S1.own? m = some o → gt own' m = some o ∨ gt own' m = none ∧ gt own m = none ∧ S.own? m = some o := by
    intro m o ho
    simp only [S1, AState.own?, gt_app, gt_map_some, gt_map_none] at ho
    cases h1 : gt own' m with
    | some o1 => rw [h1] at ho; simp at ho; exact .inl (by rw [ho])
    | none =>
      rw [h1] at ho
      cases h2 : gt own m with
      | some o2 => rw [h2] at ho; simp at ho
      | none => rw [h2] at ho; exact .inr ⟨rfl, rfl, by simpa [AState.own?] using ho⟩
  have hext : ∀ m o b, gt own m = none → S.own? m = some o → blockOf (E m) = some b → ¬ inExt E own b := by
    rintro m o b hm ho hb ⟨n, o2, hn, hbn⟩
    have hne : m ≠ n := by intro e; subst e; rw [hm] at hn; cases hn
    exact hs.apart m n o o2 b hne ho (hsub n o2 hn) hb hbn
  have hMn : ∀ m o b, gt own m = none → S.own? m = some o → blockOf (E m) = some b → ∀ k, M' b k = none := by
    intro m o b hm ho hb k
    cases hq : M' b k with
    | none => rfl
    | some u =>
      rcases hp.mnew b k u hq with q | q | q
      · rw [((hs.own m o ho).block hb).2 k] at q; cases q
      · exact (hext m o b hm ho hb q).elim
      · have := hs.block_lt ho hb; omega
  have hexthome : ∀ b, inExt E own b → C.ext b ∨ C.w0.heap.size ≤ b := fun b ⟨n, o, hn, hb⟩ => hs.home n o b (hsub n o hn) hb
  have h1 : Sim C E' M' S1 a w' := by
    refine { size := hs.size, defers := hs.defers, tmps := ?_, mem := hp.mem, own := ?_, apart := ?_, home := ?_, m0 := Mem.le_trans hs.m0 hp.mle, mnew := ?_, frame := ?_, grows := Nat.le_trans hs.grows hp.grows, os := hp.os.trans hs.os, tape := hp.tape.trans hs.tape, output := hp.output.trans hs.output, env := fun n hn => (hp.env n hn).trans (hs.env n hn) }
    · intro t x hx
      obtain ⟨u, hu, hr⟩ := hs.tmps t x hx
      exact ⟨u, hu, hr.mono hp.mle (hEt t x hx)⟩
    · intro m o ho
      rcases hold m o ho with h | ⟨_, h2, h3⟩
      · exact hp.owns.ok m o h
      · exact (hs.own m o h3).keep (hEown m o h3) (fun b hb => hp.frame b (hs.block_lt h3 hb) (hext m o b h2 h3 hb)) (hEo m o h3) hp.mle (fun b hb => hMn m o b h2 h3 hb)
    · intro m m' o o' b hne ho ho' hb hb'
      rcases hold m o ho with h | ⟨_, h2, h3⟩ <;> rcases hold m' o' ho' with k | ⟨_, k2, k3⟩
      · exact hp.owns.apart m m' o o' b hne h k hb hb'
      · rw [hEown m' o' k3] at hb'
        rcases hp.home m o b h hb with q | q
        · exact hext m' o' b k2 k3 hb' q
        · have := hs.block_lt k3 hb'; omega
      · rw [hEown m o h3] at hb
        rcases hp.home m' o' b k hb' with q | q
        · exact hext m o b h2 h3 hb q
        · have := hs.block_lt h3 hb; omega
      · rw [hEown m o h3] at hb; rw [hEown m' o' k3] at hb'
        exact hs.apart m m' o o' b hne h3 k3 hb hb'
    · intro m o b ho hb
      rcases hold m o ho with h | ⟨_, h2, h3⟩
      · rcases hp.home m o b h hb with q | q
        · exact hexthome b q
        · exact .inr (Nat.le_trans hs.grows q)
      · rw [hEown m o h3] at hb
        exact hs.home m o b h3 hb
    · intro b k u hu
      rcases hp.mnew b k u hu with q | q | q
      · exact hs.mnew b k u q
      · exact .inr (hexthome b q)
      · exact .inr (.inr (Nat.le_trans hs.grows q))
    · intro k hk hke
      rw [hp.frame k (Nat.lt_of_lt_of_le hk hs.grows) fun he => ?_]
      · exact hs.frame k hk hke
      · rcases hexthome k he with q | q
        · exact hke q
        · omega
  exact h1.put o.dst hd hp.rep

theorem ok_callFn {c : Call} {f : Operand} (ho : o.op = .call c) (hc : c.callee = .value f) : OpOk C nm o := by
  intro E M S a w K Q k hs hv hK
  simp only [AVal, ho, hc] at hv
  have hf := hs.ev f
  split at hv
  · rename_i fid l l' he
    rw [he] at hf
    obtain ⟨own, r, own', ⟨hcall, hfn⟩, hown, hnew, hk⟩ := hv
    generalize hq : a.eval f = q at hf
    cases hf with
    | fn fid first captured l l' h1 h2 h3 h4 =>
      have hargs : HReps E M (first ++ c.args.map a.eval ++ captured) (l ++ c.args.toList.map (Go.Awp.ev S) ++ l') :=
        HReps.append (HReps.append ⟨h1, h3⟩ (hs.args c.args)) ⟨h2, h4⟩
      have hsub : ∀ n o, gt own n = some o → S.own? n = some o := fun n o h => hown (n, o) (gt_mem h)
      have hC := hfn E M w _ (C.g0.mono hs.m0 fun b ⟨v, hv⟩ hb => hs.frame b hb fun hx => by rw [C.gx b hx 0] at hv; cases hv) hs.mem ⟨fun n o h => hs.own n o (hsub n o h), fun n m o o' b hne h h' => hs.apart n m o o' b hne (hsub n o h) (hsub m o' h')⟩ hargs
      have hex : (execOp a.eval o).run C.P w = .ok (.enter fid (first ++ c.args.map a.eval ++ captured)) w := by
        unfold callable at hcall
        split at hcall
        · rename_i fn hfn'
          simp only [Bool.and_eq_true, bne_iff_ne, ne_eq] at hcall
          have hb : ¬ fn.body = none := by
            intro hbb
            rw [hbb] at hcall; simp at hcall
          simp [execOp, ho, resolve, hc, hq, Deferred.ofValue, invoke, callFunc, hfn', hcall.1, hb]
        · cases hcall
      unfold Oper.wp
      rw [hex]
      refine hC.mono ?_
      rintro e w' ⟨v, E', M', rfl, hp, henv⟩
      exact hK _ _ _ _ _ hk (hs.called hd hsub hp henv hnew)
  · exact hv.elim

omit hd in
theorem zeroX_int {P : Program} {e : TypeId} {k : IntKind} {n : Int} (h : zeroX P e = some (.v (.int k n))) : ∃ i, P.info? e = some i ∧ i.zero = some (.int k n) := by
  unfold zeroX at h
  split at h
  · rename_i i hi
    split at h
    · cases h
    · rename_i v _ hv
      simp only [Option.some.injEq, D.v.injEq] at h
      subst h
      exact ⟨i, hi, hv⟩
    · cases h
  · cases h

omit hd in
theorem strCells_ints (s : ByteArray) : Lib.strCells s = (Bs.ints s).map (Value.int .u8) := by
  unfold Lib.strCells Bs.ints
  rw [List.map_map]; rfl

omit hd in
theorem ints_length (s : ByteArray) : (Bs.ints s).length = s.size := by
  unfold Bs.ints
  rw [List.length_map, Array.length_toList]; rfl

omit hd in
theorem run_loadBytes_ints {P : Program} (w : World) : ∀ (l : List Int) (a : Addr) (acc : ByteArray), (∀ (j : Nat) (x : Int), l[j]? = some x → w.cell? (a.add j) = some (.int .u8 x)) →
    (loadBytes a acc l.length).run P w = .ok (acc ++ Bs.bytes l) w
  | [], a, acc, _ => by
    simp only [List.length_nil, loadBytes, Sem.run_pure]
    congr 1
    apply ByteArray.ext; simp [Bs.bytes]
  | x :: l, a, acc, h => by
    have h0 : w.cell? a = some (.int .u8 x) := by
      have := h 0 x rfl
      simpa [Addr.add] using this
    have ih := run_loadBytes_ints (P := P) w l (a.add 1) (acc.push (UInt8.ofNat x.toNat)) (fun j y hy => by
      have := h (j + 1) y (by simpa using hy)
      have e : (a.add 1).add j = a.add (j + 1) := by
        unfold Addr.add
        by_cases hj : j = 0
        · subst hj; simp
        · simp [hj]; omega
      rw [e]; exact this)
    have hx : (x.toNat).toUInt8 = UInt8.ofNat x.toNat := rfl
    simp only [List.length_cons, loadBytes, Sem.run_bind, Go.run_load, h0, Result.andThen, hx]
    rw [ih]
    congr 1
    apply ByteArray.ext
    simp [Bs.bytes, ByteArray.push]

omit hd in
theorem run_unsafeString_ints {P : Program} {w : World} (pt it ty e : TypeId) (hp : P.underlying pt = some (.pointer e)) (hc : P.cellsOf e = 1) (g cells : Nat) (hsh : w.shape? g = some (e, cells)) (l : List Int) (h0 : l ≠ []) (hn : l.length ≤ cells) (h63 : l.length ≤ 9223372036854775807)
    (hcell : ∀ (j : Nat) (x : Int), l[j]? = some x → w.cell? ((⟨g, 0, none⟩ : Addr).add j) = some (.int .u8 x)) :
    (Builtin.unsafeString_ #[pt, it] ty #[.pointer (some ⟨g, 0, none⟩), .int .i64 l.length]).run P w = .ok (.string (Bs.bytes l)) (w.freeze ⟨g, 0, none⟩ l.length) := by
  have hl : l.length ≠ 0 := by simpa using h0
  have hlb := run_loadBytes_ints (P := P) w l ⟨g, 0, none⟩ .empty hcell
  have hlies := Lib.liesAt_bytes (P := P) hc (cells / P.cellsOf e) l.length (by rw [hc]; simpa using hn)
  have h63' : ¬ (9223372036854775807 : Int) < (l.length : Int) := by omega
  have hmax : IntKind.i64.max = 9223372036854775807 := rfl
  have hem : (ByteArray.empty : ByteArray) ++ Bs.bytes l = Bs.bytes l := by apply ByteArray.ext; simp
  rw [hem] at hlb
  have hva : (variablesAt ⟨g, 0, none⟩ e l.length).run P w = .ok true w := by
    simp [variablesAt, hsh, hlies]
  have hne : ((l.length : Int) = 0) = False := by simpa using h0
  have hneg : ¬ (l.length : Int) < 0 := by omega
  have hdef : Builtin.unsafeString_ #[pt, it] ty #[.pointer (some ⟨g, 0, none⟩), .int .i64 l.length] =
      (do
        let n ← asInt (.int .i64 l.length)
        if n < 0 then runtimePanic (.error "unsafe.String: len out of range")
        if n > IntKind.i64.max then unsupported (.unsafePointer "String: a length above the largest int")
        if n = 0 then pure (.string .empty)
        else if ← variablesAt ⟨g, 0, none⟩ (← elemOf pt) n.toNat then do
          let s ← loadBytes ⟨g, 0, none⟩ .empty n.toNat
          freeze ⟨g, 0, none⟩ n.toNat
          pure (.string s)
        else unsupported (.unsafePointer "String: not so many bytes at ptr")) := rfl
  rw [hdef]
  simp [asInt, asIntOf, hmax, h63', hneg, hl, variablesAt, hsh, elemOf, run_underlying hp, hlies, hlb]

omit hd in
theorem run_append_str_at {P : Program} {w : World} (t u ty e : TypeId) (i : TypeInfo) (ht : P.underlying t = some (.slice e)) (hu : P.underlying u = some .string) (hi : P.info? e = some i) (hz : i.zero = some (.int .u8 0))
    (hsize : i.size = 1) (hby : i.bytes = 1) (v : Value) (n : Nat) (xs : List Value) (hown : w.ownsRow 0 e 1 v n xs) (s : ByteArray) (hle : n + s.size ≤ 1000000000000) :
    ∃ v' w', (Builtin.append_ #[t, u] ty #[v, .string s]).run P w = .ok v' w' ∧ w'.ownsRow 0 e 1 v' (n + s.size) (xs ++ (Bs.ints s).map (Value.int .u8)) ∧ w.grownBy w' (blockOf v) ∧
      ∀ b, blockOf v' = some b → blockOf v = some b ∨ w.heap.size ≤ b := by
  have hM1 : (1000000000000 : Nat) ≤ maxLen := by decide
  have hb : blockOf v = v.ownBlock := by
    rcases hown.2 with ⟨rfl, _⟩ | ⟨g, cap, cur, rfl, _⟩ <;> rfl
  obtain ⟨v', w', e1, e2, e3, _⟩ := Lib.run_append_own_string (P := P) (w := w) 0 t u ty e i ht hu hi hz hsize hby v n xs hown s (by omega) (by omega) (Nat.zero_le _)
  refine ⟨v', w', e1, by rw [← strCells_ints]; exact e2, by rw [hb]; exact e3, fun b hbv => ?_⟩
  rcases hown.2 with ⟨rfl, rfl⟩ | ⟨g, cap, cur, rfl, hbg, hg, hnc, hcm, hcs, htake⟩
  · obtain ⟨v2, w2, f1, f2, _⟩ := Lib.run_append_own_string (P := P) (w := w) w.heap.size t u ty e i ht hu hi hz hsize hby (.slice none 0 0) 0 [] (World.ownsRow_nil w _ e 1) s (by omega) (by omega) (Nat.le_refl _)
    rw [e1] at f1
    simp only [Result.ok.injEq] at f1
    obtain ⟨rfl, rfl⟩ := f1
    right
    rcases f2.2 with ⟨hn, _⟩ | ⟨g2, cap2, cur2, hv2, hb2, _⟩
    · rw [hn] at hbv; simp [blockOf] at hbv
    · rw [hv2] at hbv; simp [blockOf] at hbv; omega
  · by_cases hroom : n + s.size ≤ cap
    · have hcs' : cur.size = cap := by simpa using hcs
      have f1 := Lib.run_append_room_string (P := P) w t u ty e i ht hu hi hsize g n cap cur hg s hroom (by omega)
      rw [e1] at f1
      simp only [Result.ok.injEq] at f1
      obtain ⟨rfl, _⟩ := f1
      left; simpa [blockOf] using hbv
    · have holds : ∀ j u, xs[j]? = some u → w.cell? ((⟨g, 0, none⟩ : Addr).add j) = some u := hown.cells (g := g) rfl
      have f1 := Lib.run_append_grow_string (P := P) w t u ty e i (.int .u8 0) ht hu hi hz ⟨g, 0, none⟩ n cap xs (by rw [hsize]; simpa using hown.1) holds s (by omega) (by omega) (by rw [hby]; exact growslice_fits (by omega) (by omega))
      rw [e1] at f1
      simp only [Result.ok.injEq] at f1
      obtain ⟨rfl, _⟩ := f1
      right; simp [blockOf] at hbv; omega

theorem ok_callBuiltin {c : Call} {b : Builtin} (ho : o.op = .call c) (hc : c.callee = .builtin b) : OpOk C nm o := by
  intro E M S a w K Q k hs hv hK
  simp only [AVal, ho, hc] at hv
  split at hv
  · -- len
    rename_i x hargs
    obtain ⟨p, hp, rfl⟩ := map_one hargs
    have hx := hs.ev p
    split at hv
    · rename_i sz rows he
      rw [he] at hx
      obtain ⟨hak, hv⟩ := hv
      obtain ⟨t, e, h1, h2⟩ := argKind_slice hak
      have hlen : ∃ ad cap, a.eval p = .slice ad rows.length cap := by
        rcases hx.toD.sl_cells with ⟨h, h'⟩ | ⟨ad, cap, h, h'⟩ | ⟨b, off, cap, h, _⟩
        · exact ⟨none, 0, by rw [h, h']; rfl⟩
        · exact ⟨some ad, cap, by rw [h, h']; rfl⟩
        · exact ⟨_, _, h⟩
      obtain ⟨ad, cap, hq⟩ := hlen
      refine wp_value (v := .int .i64 rows.length) (w' := w) ?_ (hK _ _ _ _ _ hv.2 (hs.app_val hd rfl (.d (.v _))))
      simp [execOp, ho, resolve, hc, hp, hq, invoke, builtin, Builtin.len_, h1, run_underlying h2, goInt]
    · rename_i m n he
      rw [he] at hx
      obtain ⟨hak, hv⟩ := hv
      obtain ⟨t, e, h1, h2⟩ := argKind_slice hak
      generalize hq : a.eval p = q at hx
      cases hx with
      | vh m n l c' ad hE hl =>
        refine wp_value (v := .int .i64 n) (w' := w) ?_ (hK _ _ _ _ _ hv.2 (hs.app_val hd rfl (.d (.v _))))
        simp [execOp, ho, resolve, hc, hp, hq, invoke, builtin, Builtin.len_, h1, run_underlying h2, goInt]
    · rename_i n he
      rw [he] at hx
      split at hv
      · rename_i es hown
        obtain ⟨hak, hv⟩ := hv
        obtain ⟨t, ta, tb, h1, h2⟩ := argKind_map hak
        generalize hq : a.eval p = q at hx
        cases hx with
        | mp n b hE =>
          obtain ⟨b', es', clock, g1, g2, g3, _, _⟩ := hs.own n _ hown
          rw [hE] at g1; cases g1
          refine wp_value (v := .int .i64 es.length) (w' := w) ?_ (hK _ _ _ _ _ hv.2 (hs.app_val hd rfl (.d (.v _))))
          simp [execOp, ho, resolve, hc, hp, hq, invoke, builtin, Builtin.len_, h1, run_underlying h2, goInt, MapKept.run_getObj_map g2, g3]
      · exact hv.elim
    · rename_i s he
      rw [he] at hx; have hx := hx.dv
      obtain ⟨hak, hv⟩ := hv
      obtain ⟨t, h1, h2⟩ := argKind_string hak
      refine wp_value (v := .int .i64 s.size) (w' := w) ?_ (hK _ _ _ _ _ hv.2 (hs.app_val hd rfl (.d (.v _))))
      simp [execOp, ho, resolve, hc, hp, hx, invoke, builtin, Builtin.len_, h1, run_underlying h2, goInt]
    · exact hv.elim
  · -- min
    rename_i x y hargs
    obtain ⟨p, q, hp, rfl, rfl⟩ := map_two hargs
    have hx := hs.ev p
    have hy := hs.ev q
    split at hv
    · rename_i kx m ky n hex hey
      rw [hex] at hx; rw [hey] at hy
      have hx := hx.dv; have hy := hy.dv
      have hmm : min m n = if n < m then n else m := by omega
      rw [hmm] at hv
      refine wp_value (v := .int kx (if n < m then n else m)) (w' := w) ?_ (hK _ _ _ _ _ hv.2 (hs.app_val hd rfl (.d (.v _))))
      simp [execOp, ho, resolve, hc, hp, hx, hy, invoke, builtin, Builtin.min_, Builtin.min2]
    · exact hv.elim
  · -- max
    rename_i x y hargs
    obtain ⟨p, q, hp, rfl, rfl⟩ := map_two hargs
    have hx := hs.ev p
    have hy := hs.ev q
    split at hv
    · rename_i kx m ky n hex hey
      rw [hex] at hx; rw [hey] at hy
      have hx := hx.dv; have hy := hy.dv
      have hmm : max m n = if n > m then n else m := by omega
      rw [hmm] at hv
      refine wp_value (v := .int kx (if n > m then n else m)) (w' := w) ?_ (hK _ _ _ _ _ hv.2 (hs.app_val hd rfl (.d (.v _))))
      simp [execOp, ho, resolve, hc, hp, hx, hy, invoke, builtin, Builtin.max_, Builtin.max2]
    · exact hv.elim
  · -- append
    rename_i x y hargs
    obtain ⟨p, q, hp, rfl, rfl⟩ := map_two hargs
    have hx := hs.ev p
    have hy := hs.ev q
    split at hv
    · exact hv.elim
    rename_i d hdst
    split at hv
    · rename_i t t' hty
      have hty' : c.argTypes = #[t, t'] := by
        rw [← Array.toList_inj]; simpa using hty
      split at hv
      · rename_i e sz bytes hel
        obtain ⟨ii, z, hu, hii, hz, hzs, his, hib, hpos⟩ := elemTy_spec hel
        split at hv
        · rename_i sz' news hey
          rw [hey] at hy
          have src : ∀ (n : Nat), sz = sz' → news.all (fun r => r.all D.one) = true → (∀ r ∈ news, r.length = sz) ∧ ∃ cs : List Value, cs.length = news.length * sz ∧
              ((a.eval q = .slice none 0 0 ∧ news.length = 0) ∨ ∃ ad cc, a.eval q = .slice (some ad) news.length cc ∧ ∀ (j : Nat) u, cs[j]? = some u → w.cell? (ad.add j) = some u) ∧
              (∀ u ∈ cs, u.oneCell' = true) ∧ ∀ (i j : Nat) (r : List D) (c : Value) (x : D), news[i]? = some r → r[j]? = some x → cs[i * sz + j]? = some c → DRep M c x := by
            intro _ hsz hone
            subst hsz
            rcases hy.toD.sl_cells with ⟨h, h'⟩ | ⟨ad, cap, h, h'⟩ | ⟨b, off, cap, h, hcap, cs, hl, hm, hrl, hc'⟩
            · subst h'
              exact ⟨by simp, [], by simp, .inl ⟨h, rfl⟩, by simp, by simp⟩
            · subst h'
              exact ⟨by simp, [], by simp, .inr ⟨ad, cap, h, by simp⟩, by simp, by simp⟩
            · refine ⟨hrl, cs, hl, .inr ⟨_, _, h, fun j u hu => by rw [addr_add]; exact hs.mem _ _ _ (hm j u hu)⟩, fun u hu => ?_, hc'⟩
              obtain ⟨kk, hkk⟩ := List.mem_iff_getElem?.1 hu
              have hlt : kk < news.length * sz := by rw [← hl]; exact (List.getElem?_eq_some_iff.1 hkk).1
              have hi : kk / sz < news.length := Nat.div_lt_of_lt_mul (by rw [Nat.mul_comm]; exact hlt)
              have hj : kk % sz < (news[kk / sz]).length := by rw [hrl _ (List.getElem_mem hi)]; exact Nat.mod_lt _ hpos
              have hdm : kk / sz * sz + kk % sz = kk := by rw [Nat.mul_comm]; exact Nat.div_add_mod kk sz
              have hrep := hc' (kk / sz) (kk % sz) _ u _ (List.getElem?_eq_getElem hi) (List.getElem?_eq_getElem hj) (by rw [hdm]; exact hkk)
              have ho1 : ((news[kk / sz])[kk % sz]).one = true := by
                rw [List.all_eq_true] at hone
                have := hone _ (List.getElem_mem hi)
                rw [List.all_eq_true] at this
                exact this _ (List.getElem_mem hj)
              exact (HRep.d (E := E) hrep).one ho1
          have glue : ∀ (rows : List (List D)) (xs cs : List Value), xs.length = rows.length * sz → (∀ r ∈ rows, r.length = sz) →
              (∀ (i j : Nat) (r : List D) (c : Value) (x : D), rows[i]? = some r → r[j]? = some x → xs[i * sz + j]? = some c → DRep M c x) →
              (∀ (i j : Nat) (r : List D) (c : Value) (x : D), news[i]? = some r → r[j]? = some x → cs[i * sz + j]? = some c → DRep M c x) → (∀ r ∈ news, r.length = sz) →
              ∀ (i j : Nat) (r : List D) (c : Value) (x : D), (rows ++ news)[i]? = some r → r[j]? = some x → (xs ++ cs)[i * sz + j]? = some c → DRep M c x := by
            intro rows xs cs hxl hrl h1 h2 hnl i j r c x hr hx hcc
            by_cases hi : i < rows.length
            · rw [List.getElem?_append_left hi] at hr
              have hj : j < sz := by
                have := hrl r (List.mem_of_getElem? hr)
                have := (List.getElem?_eq_some_iff.1 hx).1; omega
              have hmul : (i + 1) * sz ≤ rows.length * sz := Nat.mul_le_mul_right _ hi
              rw [Nat.succ_mul] at hmul
              rw [List.getElem?_append_left (by omega)] at hcc
              exact h1 i j r c x hr hx hcc
            · rw [List.getElem?_append_right (by omega)] at hr
              have hmul : rows.length * sz ≤ i * sz := Nat.mul_le_mul_right _ (by omega)
              rw [List.getElem?_append_right (by omega), hxl] at hcc
              have : i * sz + j - rows.length * sz = (i - rows.length) * sz + j := by rw [Nat.sub_mul]; omega
              rw [this] at hcc
              exact h2 _ j r c x hr hx hcc
          have exec : ∀ v w', (Builtin.append_ #[t, t] o.type #[a.eval p, a.eval q]).run C.P w = .ok v w' → t = t' → (execOp a.eval o).run C.P w = .ok (.value v) w' := by
            intro v w' h htt
            subst htt
            simp [execOp, ho, resolve, hc, hp, invoke, builtin, hty', h]
          split at hv
          · rename_i n len hex
            rw [hex] at hx
            split at hv
            · rename_i e' s' rows hcn
              obtain ⟨⟨htt, he, hss, hsz', hlen, hone, hby, hle⟩, hnew, hk⟩ := hv
              subst he; subst hss; subst hlen
              obtain ⟨hnl, cs, hcl, hsrc, hc1, hc2⟩ := src 0 hsz' hone
              have hn := hnew (nm d) (by simp)
              generalize hq : a.eval p = pv at hx
              cases hx with
              | vh n len l cc ad hE hl =>
                obtain ⟨xs, ho1, ho2, ho3, ho4⟩ := hs.own n _ hcn
                have hll : l = rows.length := by
                  rcases ho1.2 with ⟨hn', hz'⟩ | ⟨g, cap, cur, hv', _⟩
                  · rw [hE] at hn'; simp at hn'; omega
                  · rw [hE] at hv'; simp at hv'; exact hv'.2.1
                subst hll
                rw [hE] at ho1
                obtain ⟨v', w', r1, r2, r3, r4⟩ := run_append_at (P := C.P) (w := w) t o.type e ii z sz bytes hu hii hz his hib hzs hpos _ rows.length xs ho1 (a.eval q) cs news.length hcl hsrc hc1 (by omega) hby
                refine wp_value (exec v' w' (by rw [hq]; exact r1) htt) ?_
                have hlen' : ∃ ad' cc', v' = .slice ad' (rows.length + news.length) cc' := by
                  rcases r2.2 with ⟨h, h'⟩ | ⟨g, cap, cur, h, _⟩
                  · exact ⟨none, 0, by rw [h, h']⟩
                  · exact ⟨_, _, h⟩
                obtain ⟨ad', cc', hv'⟩ := hlen'
                have hmv := hs.own_step (E' := fun m => if m = nm d then v' else E m) (n := n) (d := nm d) (o' := .vec e sz (rows ++ news)) hcn (w' := w') (by rw [hE]; exact r3) (fun m hm => by simp [hm]) (.inr hn)
                  (fun b hb => by simp at hb; rw [hE]; exact r4 b hb)
                  (fun b hb => by
                    simp at hb
                    rcases r2.2 with ⟨h, _⟩ | ⟨g, cap, cur, h, _, hg, _⟩
                    · rw [h] at hb; simp [blockOf] at hb
                    · rw [h] at hb; simp [blockOf] at hb; subst hb; exact (Array.getElem?_eq_some_iff.1 hg).1)
                  ⟨xs ++ cs, by simpa using r2, fun r hr => by
                    rcases List.mem_append.1 hr with h | h
                    · exact ho2 r h
                    · exact hnl r h, glue rows xs cs ho1.1 ho2 ho3 hc2 hnl, fun b hb k => by
                    simp at hb
                    rcases r4 b hb with q | q
                    · exact ho4 b (by rw [hE]; exact q) k
                    · cases hm : M b k with
                      | none => rfl
                      | some u => have := hs.cell_lt hm; omega⟩
                have hrep : HRep (fun m => if m = nm d then v' else E m) M v' (.vh (nm d) (rows.length + news.length)) := by
                  rw [hv']; exact HRep.vh _ _ (rows.length + news.length) cc' ad' (by simp) (Nat.le_refl _)
                exact hK _ _ _ _ _ hk (hmv.put o.dst hd hrep)
            · exact hv.elim
          · rename_i hex
            rw [hex] at hx; have hx := hx.dv
            obtain ⟨⟨htt, hsz', hone, hby, hle⟩, hnew, hk⟩ := hv
            obtain ⟨hnl, cs, hcl, hsrc, hc1, hc2⟩ := src 0 hsz' hone
            have hn := hnew (nm d) (by simp)
            obtain ⟨v', w', r1, r2, r3, r4⟩ := run_append_at (P := C.P) (w := w) t o.type e ii z sz bytes hu hii hz his hib hzs hpos (.slice none 0 0) 0 [] (World.ownsRow_nil w 0 e sz) (a.eval q) cs news.length hcl hsrc hc1 (by omega) (by simpa using hby)
            refine wp_value (exec v' w' (by rw [hx]; exact r1) htt) ?_
            have hlen' : ∃ ad' cc', v' = .slice ad' news.length cc' := by
              rcases r2.2 with ⟨h, h'⟩ | ⟨g, cap, cur, h, _⟩
              · exact ⟨none, 0, by rw [h]; simp at h'; rw [h']; rfl⟩
              · exact ⟨_, _, by simpa using h⟩
            obtain ⟨ad', cc', hv'⟩ := hlen'
            have r4' : ∀ b, blockOf v' = some b → w.heap.size ≤ b := fun b hb => by
              rcases r4 b hb with q | q
              · simp [blockOf] at q
              · exact q
            have hmv := hs.own_new (E' := fun m => if m = nm d then v' else E m) (d := nm d) (o' := .vec e sz news) (w' := w') r3 (fun m hm => by simp [hm]) hn.1 hn.2 (fun b hb => r4' b (by simpa using hb))
              ⟨cs, by simpa using r2, hnl, hc2, fun b hb k => by
                  have := r4' b (by simpa using hb)
                  cases hm : M b k with
                  | none => rfl
                  | some u => have := hs.cell_lt hm; omega⟩
            have hrep : HRep (fun m => if m = nm d then v' else E m) M v' (.vh (nm d) news.length) := by
              rw [hv']; exact HRep.vh _ _ news.length cc' ad' (by simp) (Nat.le_refl _)
            exact hK _ _ _ _ _ hk (hmv.put o.dst hd hrep)
          · exact hv.elim
        · -- a text behind bytes
          rename_i s hey
          rw [hey] at hy; have hy := hy.dv
          have exec : ∀ v w', (Builtin.append_ #[t, t'] o.type #[a.eval p, a.eval q]).run C.P w = .ok v w' → (execOp a.eval o).run C.P w = .ok (.value v) w' := by
            intro v w' h
            simp [execOp, ho, resolve, hc, hp, invoke, builtin, hty', h]
          have rows1 : ∀ (l : List Int) (i j : Nat) (r : List D) (c : Value) (x : D), (l.map (row1 .u8))[i]? = some r → r[j]? = some x → (l.map (Value.int .u8))[i * 1 + j]? = some c → DRep M c x := by
            intro l i j r c x hr hx hc
            rw [List.getElem?_map, Option.map_eq_some_iff] at hr
            obtain ⟨n, hn', rfl⟩ := hr
            cases j with
            | zero =>
              simp only [row1, List.getElem?_cons_zero, Option.some.injEq] at hx
              subst hx
              simp only [Nat.mul_one, Nat.add_zero, List.getElem?_map, hn', Option.map_some, Option.some.injEq] at hc
              subst hc; exact .v _
            | succ j => simp [row1] at hx
          have hM1 : (1000000000000 : Nat) ≤ maxLen := by decide
          split at hv
          · rename_i n len hex
            rw [hex] at hx
            split at hv
            · rename_i e' s' rows hcn
              obtain ⟨⟨hus, hzx, rfl, rfl, rfl, rfl, rfl, hle⟩, hnew, hk⟩ := hv
              obtain ⟨i2, hi2, hz2⟩ := zeroX_int hzx
              rw [hii] at hi2; cases hi2
              have hn := hnew (nm d) (by simp)
              generalize hq : a.eval p = pv at hx
              cases hx with
              | vh n len l cc ad hE hl =>
                obtain ⟨xs, ho1, ho2, ho3, ho4⟩ := hs.own n _ hcn
                have hll : l = rows.length := by
                  rcases ho1.2 with ⟨hn', hz'⟩ | ⟨g, cap, cur, hv', _⟩
                  · rw [hE] at hn'; simp at hn'; omega
                  · rw [hE] at hv'; simp at hv'; exact hv'.2.1
                subst hll
                rw [hE] at ho1
                obtain ⟨v', w', r1, r2, r3, r4⟩ := run_append_str_at (P := C.P) (w := w) t t' o.type e ii hu hus hii hz2 his hib _ rows.length xs ho1 s hle
                refine wp_value (exec v' w' (by rw [hq, hy]; exact r1)) ?_
                have hlen' : ∃ ad' cc', v' = .slice ad' (rows.length + s.size) cc' := by
                  rcases r2.2 with ⟨h, h'⟩ | ⟨g, cap, cur, h, _⟩
                  · exact ⟨none, 0, by rw [h, h']⟩
                  · exact ⟨_, _, h⟩
                obtain ⟨ad', cc', hv'⟩ := hlen'
                have hbl : ∀ b, blockOf v' = some b → blockOf (E n) = some b ∨ w.heap.size ≤ b := fun b hb => by
                  rw [hE]; exact r4 b hb
                have hmv := hs.own_step (E' := fun m => if m = nm d then v' else E m) (n := n) (d := nm d) (o' := .vec e 1 (rows ++ (Bs.ints s).map (row1 .u8))) hcn (w' := w') (by rw [hE]; exact r3) (fun m hm => by simp [hm]) (.inr hn)
                  (fun b hb => by simp at hb; exact hbl b hb)
                  (fun b hb => by
                    simp at hb
                    rcases r2.2 with ⟨h, _⟩ | ⟨g, cap, cur, h, _, hg, _⟩
                    · rw [h] at hb; simp [blockOf] at hb
                    · rw [h] at hb; simp [blockOf] at hb; subst hb; exact (Array.getElem?_eq_some_iff.1 hg).1)
                  ⟨xs ++ (Bs.ints s).map (Value.int .u8), by simpa [ints_length] using r2, fun r hr => by
                    rcases List.mem_append.1 hr with h | h
                    · exact ho2 r h
                    · obtain ⟨n, _, rfl⟩ := List.mem_map.1 h; rfl, fun i j r c x hr hx hcc => by
                    have hxl : xs.length = rows.length := by simpa using ho1.1
                    by_cases hi : i < rows.length
                    · rw [List.getElem?_append_left hi] at hr
                      have hj : j < 1 := by
                        have := ho2 r (List.mem_of_getElem? hr)
                        have := (List.getElem?_eq_some_iff.1 hx).1; omega
                      rw [List.getElem?_append_left (by omega)] at hcc
                      exact ho3 i j r c x hr hx hcc
                    · rw [List.getElem?_append_right (by omega)] at hr
                      rw [List.getElem?_append_right (by omega), hxl] at hcc
                      have : i * 1 + j - rows.length = (i - rows.length) * 1 + j := by omega
                      rw [this] at hcc
                      exact rows1 _ _ j r c x hr hx hcc, fun b hb k => by
                    simp at hb
                    rcases hbl b hb with q | q
                    · exact ho4 b q k
                    · cases hm : M b k with
                      | none => rfl
                      | some u => have := hs.cell_lt hm; omega⟩
                have hrep : HRep (fun m => if m = nm d then v' else E m) M v' (.vh (nm d) (rows.length + (Bs.ints s).length)) := by
                  rw [hv', ints_length]; exact HRep.vh _ _ (rows.length + s.size) cc' ad' (by simp) (Nat.le_refl _)
                exact hK _ _ _ _ _ hk (hmv.put o.dst hd hrep)
            · exact hv.elim
          · rename_i hex
            rw [hex] at hx; have hx := hx.dv
            obtain ⟨⟨hus, hzx, rfl, rfl, hle⟩, hnew, hk⟩ := hv
            obtain ⟨i2, hi2, hz2⟩ := zeroX_int hzx
            rw [hii] at hi2; cases hi2
            have hn := hnew (nm d) (by simp)
            obtain ⟨v', w', r1, r2, r3, r4⟩ := run_append_str_at (P := C.P) (w := w) t t' o.type e ii hu hus hii hz2 his hib (.slice none 0 0) 0 [] (World.ownsRow_nil w 0 e 1) s (by omega)
            refine wp_value (exec v' w' (by rw [hx, hy]; exact r1)) ?_
            have hlen' : ∃ ad' cc', v' = .slice ad' s.size cc' := by
              rcases r2.2 with ⟨h, h'⟩ | ⟨g, cap, cur, h, _⟩
              · exact ⟨none, 0, by rw [h]; have h0 : s.size = 0 := by omega
                                   rw [h0]⟩
              · exact ⟨_, _, by simpa using h⟩
            obtain ⟨ad', cc', hv'⟩ := hlen'
            have r4' : ∀ b, blockOf v' = some b → w.heap.size ≤ b := fun b hb => by
              rcases r4 b hb with q | q
              · simp [blockOf] at q
              · exact q
            have hmv := hs.own_new (E' := fun m => if m = nm d then v' else E m) (d := nm d) (o' := .vec e 1 ((Bs.ints s).map (row1 .u8))) (w' := w') r3 (fun m hm => by simp [hm]) hn.1 hn.2 (fun b hb => r4' b (by simpa using hb))
              ⟨(Bs.ints s).map (Value.int .u8), by simpa [ints_length] using r2, fun r hr => by
                  obtain ⟨n, _, rfl⟩ := List.mem_map.1 hr; rfl, rows1 _, fun b hb k => by
                  have := r4' b (by simpa using hb)
                  cases hm : M b k with
                  | none => rfl
                  | some u => have := hs.cell_lt hm; omega⟩
            have hrep : HRep (fun m => if m = nm d then v' else E m) M v' (.vh (nm d) (Bs.ints s).length) := by
              rw [hv', ints_length]; exact HRep.vh _ _ s.size cc' ad' (by simp) (Nat.le_refl _)
            exact hK _ _ _ _ _ hk (hmv.put o.dst hd hrep)
          · exact hv.elim
        · exact hv.elim
      · exact hv.elim
    · exact hv.elim
  · -- the address of a slice's elements
    rename_i x hargs
    obtain ⟨p, hp, rfl⟩ := map_one hargs
    have hx := hs.ev p
    split at hv
    · rename_i n len he
      rw [he] at hx
      split at hv
      · rename_i e z rows hown
        obtain ⟨hip, _, hk⟩ := hv
        generalize hq : a.eval p = q at hx
        cases hx with
        | vh n len l cc ad hE hl =>
          obtain ⟨xs, ho1, _⟩ := hs.own n _ hown
          rw [hE] at ho1
          have exec : ∀ v w', (Builtin.unsafeSliceData_ c.argTypes o.type #[a.eval p]).run C.P w = .ok v w' → (execOp a.eval o).run C.P w = .ok (.value v) w' := by
            intro v w' h
            simp [execOp, ho, resolve, hc, hp, invoke, builtin, h]
          rcases ho1.2 with ⟨hn', hz'⟩ | ⟨g, cap, cur, hv', _, hg, hnc, hcm, hcs, _⟩
          · simp only [Value.slice.injEq] at hn'
            obtain ⟨rfl, rfl, rfl⟩ := hn'
            refine wp_value (exec _ w (by rw [hq]; exact Lib.run_unsafeSliceData_nil _ _ _ _ _)) (hK _ _ _ _ _ hk (hs.app_val hd rfl (.sd n none fun a l c he' _ => ?_)))
            rw [hE] at he'; simp only [Value.slice.injEq] at he'; exact he'.1
          · simp only [Value.slice.injEq] at hv'
            obtain ⟨rfl, rfl, rfl⟩ := hv'
            by_cases hc0 : cc = 0
            · subst hc0
              unfold isPtr at hip
              split at hip
              · rename_i e' he'
                have hsh : w.shape? g = some (e, cur.size) := by simp [World.shape?, hg]
                refine wp_value (exec _ _ (by rw [hq]; exact Lib.run_unsafeSliceData_zero _ _ _ e' he' _ _ _ hsh)) ?_
                have h1 := hs.ro_new (M' := M) (World.grownBy_alloc w (.view ⟨g, 0, none⟩ e') none) (Mem.le_refl M) (fun b o v h => .inl h) (fun b o v h hb => by have := hs.cell_lt h; omega)
                refine hK _ _ _ _ _ hk (h1.app_val hd rfl (.sd n _ fun a l c he' hl0 => ?_))
                rw [hE] at he'; simp only [Value.slice.injEq] at he'; omega
              · cases hip
            · refine wp_value (exec _ w (by rw [hq]; exact Lib.run_unsafeSliceData_row _ _ _ _ _ _ hc0)) (hK _ _ _ _ _ hk (hs.app_val hd rfl (.sd n _ fun a l c he' _ => ?_)))
              rw [hE] at he'; simp only [Value.slice.injEq] at he'; exact he'.1
      · exact hv.elim
    · exact hv.elim
  · -- the text of bytes that are owned
    rename_i x y hargs
    obtain ⟨p, q, hp, rfl, rfl⟩ := map_two hargs
    have hx := hs.ev p
    have hy := hs.ev q
    split at hv
    · rename_i n ki l hex hey
      rw [hex] at hx; rw [hey] at hy
      have hy := hy.dv
      split at hv
      · rename_i e z rows hown
        split at hv
        · rename_i ns pt it hns hty
          obtain ⟨⟨hpt, hce, rfl, rfl, rfl, hle⟩, _, hk⟩ := hv
          have hrows := intsD_spec hns
          subst hrows
          have hty' : c.argTypes = #[pt, it] := by rw [← Array.toList_inj]; simpa using hty
          have exec : ∀ v w', (Builtin.unsafeString_ #[pt, it] o.type #[a.eval p, a.eval q]).run C.P w = .ok v w' → (execOp a.eval o).run C.P w = .ok (.value v) w' := by
            intro v w' h
            simp [execOp, ho, resolve, hc, hp, invoke, builtin, hty', h]
          generalize hq : a.eval p = pv at hx
          cases hx with
          | sd n pp hsd =>
            obtain ⟨xs, ho1, ho2, ho3, ho4⟩ := hs.own n _ hown
            have fin : ∀ w', w.grownBy w' (blockOf (E n)) → (Builtin.unsafeString_ #[pt, it] o.type #[a.eval p, a.eval q]).run C.P w = .ok (.string (Bs.bytes ns)) w' → o.wp C.P a w K Q := by
              intro w' hg hr
              have h1 := (hs.own_drop hown hg).put o.dst hd (x := .d (.v (.string (Bs.bytes ns)))) (.d (.v _))
              exact wp_value (exec _ _ hr) (hK _ _ _ _ _ hk h1)
            by_cases h0 : ns = []
            · subst h0
              refine fin w ⟨rfl, rfl, rfl, Nat.le_refl _, fun _ _ _ => rfl⟩ ?_
              rw [hq, hy]
              exact Lib.run_unsafeString_none w pt it o.type pp
            · rcases ho1.2 with ⟨hn', hz'⟩ | ⟨g, cap, cur, hv', _, hg, hnc, hcm, hcs, htake⟩
              · exact (h0 (by simpa using hz')).elim
              · have hpp := hsd _ _ _ hv' (by simpa using h0)
                subst hpp
                have hsh : w.shape? g = some (e, cur.size) := by simp [World.shape?, hg]
                simp only [List.length_map] at hnc htake hv'
                refine fin (w.freeze ⟨g, 0, none⟩ ns.length) ?_ ?_
                · rw [hv']
                  refine ⟨?_, ?_, ?_, ?_, fun k hk hne => ?_⟩
                  · unfold World.freeze; split <;> rfl
                  · unfold World.freeze; split <;> rfl
                  · unfold World.freeze; split <;> rfl
                  · unfold World.freeze; split <;> simp
                  · unfold World.freeze
                    split
                    · rfl
                    · have hgk : ¬ g = k := fun e => hne (by simp [blockOf, e])
                      simp [Array.getElem?_modify, hgk]
                · rw [hq, hy]
                  simp only [List.length_map]
                  refine run_unsafeString_ints pt it o.type e hpt hce g cur.size hsh ns h0 (by omega) (by simp at hle; omega) fun j x hj => ?_
                  rw [addr_add, Nat.zero_add, cell_of_row w g j cur e (0, 0) hg]
                  have hjl : j < ns.length := (List.getElem?_eq_some_iff.1 hj).1
                  have hxl : xs.length = ns.length := by simpa using ho1.1
                  have hxj : xs[j]? = some xs[j] := List.getElem?_eq_getElem (by omega)
                  have hd := ho3 j 0 (row1 .u8 x) xs[j] (.v (.int .u8 x)) (by rw [List.getElem?_map, hj]; rfl) rfl (by simp)
                  have hxe : xs[j] = .int .u8 x := by generalize xs[j] = u at hd; cases hd; rfl
                  rw [hxe, ← htake, List.getElem?_take] at hxj
                  split at hxj
                  · simpa using hxj
                  · omega
        · exact hv.elim
      · exact hv.elim
    · exact hv.elim
  · exact hv.elim

theorem ok_makeSlice {t : TypeId} {l c : Operand} (ho : o.op = .makeSlice t l c) : OpOk C nm o := by
  intro E M S a w K Q k hs hv hK
  simp only [AVal, ho] at hv
  split at hv
  · rename_i e sz by_ d ht hdst
    obtain ⟨ii, z0, hu, hii, hz, hzs, his, hib, hpos⟩ := elemTy_spec ht
    split at hv
    · rename_i z kl n kc m hzd hl hc
      obtain ⟨⟨hnm, hn0, hm0, hm1, hb⟩, hnw, hk⟩ := hv
      have hn := hnw (nm d) (by simp)
      have hz' : z = z0.cells.toList := by
        unfold zeroD at hzd
        rw [hii] at hzd
        simp only [hz] at hzd
        simpa using hzd.symm
      subst hz'
      have el : a.eval l = .int kl n := by have := hs.ev l; rw [hl] at this; exact this.dv
      have ec : a.eval c = .int kc m := by have := hs.ev c; rw [hc] at this; exact this.dv
      obtain ⟨N, rfl⟩ : ∃ N : Nat, m = N := ⟨m.toNat, by omega⟩
      have hbytes : ii.bytes * N ≤ 281474976710656 := by
        rw [hib]
        have h1 : by_ * N ≤ 32768 * 4294967296 := Nat.mul_le_mul hb (by omega)
        omega
      have hmx : N ≤ maxLen := by
        have : (4294967296 : Nat) ≤ maxLen := by decide
        omega
      have hsz : z0.cells.toList.length = sz := by simpa using hzs
      have hrun : ∃ (w' : World) (xs : List Value), (execOp a.eval o).run C.P w = .ok (.value (.slice (some ⟨w.heap.size, 0, none⟩) n.toNat N)) w' ∧ w'.ownsRow 0 e sz (.slice (some ⟨w.heap.size, 0, none⟩) n.toNat N) n.toNat xs ∧ w.grownBy w' none ∧
          ∀ (i j : Nat) (c : Value) (x : Value), i < n.toNat → z0.cells.toList[j]? = some x → xs[i * sz + j]? = some c → c = x := by
        rcases hnm with rfl | rfl
        · obtain ⟨w', r1, r2, r3⟩ := run_make_full (P := C.P) (w := w) 0 t e ii z0 sz hu hii hz his kl kc N hbytes hmx (Nat.zero_le _)
          refine ⟨w', _, ?_, by simpa using r2, r3, fun i j c x hi hj hc => ?_⟩
          · simp only [execOp, ho, el, ec, Sem.run_bind, r1, Result.andThen_ok, Sem.run_pure]
            rfl
          · have hjs : j < sz := by rw [← hsz]; exact (List.getElem?_eq_some_iff.1 hj).1
            have hlt : i * sz + j < N * sz := by
              have : (i + 1) * sz ≤ N * sz := Nat.mul_le_mul_right _ (by have : ((N : Int)).toNat = N := Int.toNat_natCast N; omega)
              rw [Nat.succ_mul] at this; omega
            have hmod : (i * sz + j) % sz = j := by rw [Nat.add_comm, Nat.add_mul_mod_self_right, Nat.mod_eq_of_lt hjs]
            simp only [madeCells, Array.toList_map, Array.toList_range, List.getElem?_map, List.getElem?_range hlt, Option.map_some, Option.some.injEq] at hc
            rw [hzs, hmod] at hc
            rw [← hc]
            have hj' : z0.cells[j]? = some x := by simpa using hj
            rw [getElem!_def, hj']
        · obtain ⟨w', r1, r2, r3⟩ := run_make_own (P := C.P) (w := w) 0 t e ii z0 sz hu hii hz his kl kc N hbytes hmx (Nat.zero_le _)
          refine ⟨w', [], ?_, by simpa using r2, r3, fun i j c x hi => by simp at hi⟩
          simp only [execOp, ho, el, ec, Sem.run_bind, r1, Result.andThen_ok, Sem.run_pure]
          rfl
      obtain ⟨w', xs, r1, r2, r3, r4⟩ := hrun
      refine wp_value r1 ?_
      have hnew : ∀ (k : Nat), M w.heap.size k = none := by
        intro k
        cases hm : M w.heap.size k with
        | none => rfl
        | some v => have := hs.cell_lt hm; omega
      have h1 := hs.own_new (E' := fun m => if m = nm d then .slice (some ⟨w.heap.size, 0, none⟩) n.toNat N else E m) (d := nm d) (o' := .vec e sz (List.replicate n.toNat (z0.cells.toList.map .v))) r3
        (fun m hm => by simp [hm]) hn.1 hn.2 (fun b hb => by simp [blockOf] at hb; omega)
        ⟨xs, by simpa using r2, fun r hr => by rw [List.eq_of_mem_replicate hr, List.length_map]; exact hsz, fun i j r c x hr hx hc => by
          have hi : i < n.toNat := by have := (List.getElem?_eq_some_iff.1 hr).1; simpa using this
          have hr' : r = z0.cells.toList.map .v := by
            rw [List.getElem?_replicate, if_pos hi] at hr
            simpa using hr.symm
          subst hr'
          rw [List.getElem?_map, Option.map_eq_some_iff] at hx
          obtain ⟨y, hy, rfl⟩ := hx
          rw [r4 i j c y hi hy hc]
          exact .v y, fun b hb k => by simp [blockOf] at hb; subst hb; exact hnew k⟩
      have h2 := h1.put o.dst hd (HRep.vh (nm d) n.toNat n.toNat N (some ⟨w.heap.size, 0, none⟩) (by simp) (Nat.le_refl _))
      exact hK _ _ _ _ _ hk (by rw [hdst] at h2 ⊢; exact h2.weaken (fun t x hx => .inl hx) (fun m p hm => hm))
    · exact hv.elim
  · exact hv.elim

theorem ok_makeMap {t : TypeId} {hint : Option Operand} (ho : o.op = .makeMap t hint) : OpOk C nm o := by
  intro E M S a w K Q k hs hv hK
  simp only [AVal, ho] at hv
  split at hv
  · rename_i kt et d hu hdst
    obtain ⟨hh, hnw, hk⟩ := hv
    have hn := hnw (nm d) (by simp)
    have hrun : (execOp a.eval o).run C.P w = .ok (.value (.map (some w.heap.size))) (w.alloc (.map #[] 0)) := by
      cases hint with
      | none => simp only [execOp, ho, Option.map_none, Instr.makeMap, Sem.run_bind, run_newObj_alloc, Result.andThen_ok, Sem.run_pure]
      | some x =>
        have hx := hs.ev x
        simp only [hintOk] at hh
        split at hh
        · rename_i ki m he
          rw [he] at hx
          have hx := hx.dv
          simp only [execOp, ho, Option.map_some, hx, Instr.makeMap, asInt, asIntOf, Sem.run_bind, run_underlying hu, run_newObj_alloc, Result.andThen_ok, Sem.run_pure]
        · cases hh
    refine wp_value hrun ?_
    have hnew : ∀ (k : Nat), M w.heap.size k = none := by
      intro k
      cases hm : M w.heap.size k with
      | none => rfl
      | some v => have := hs.cell_lt hm; omega
    have h1 := hs.own_new (E' := fun m => if m = nm d then .map (some w.heap.size) else E m) (d := nm d) (o' := .map []) (World.grownBy_alloc w (.map #[] 0) none)
      (fun m hm => by simp [hm]) hn.1 hn.2 (fun b hb => by simp [blockOf] at hb; omega)
      ⟨w.heap.size, #[], 0, by simp, heap_alloc_new w _, rfl, fun i e p he => by simp at he, hnew⟩
    have h2 := h1.put o.dst hd (HRep.mp (nm d) w.heap.size (by simp))
    exact hK _ _ _ _ _ hk (by rw [hdst] at h2 ⊢; exact h2.weaken (fun t x hx => .inl hx) (fun m p hm => hm))
  · exact hv.elim

theorem ok_lookup {t : TypeId} {x i : Operand} {commaOk : Bool} (ho : o.op = .lookup t x i commaOk) : OpOk C nm o := by
  intro E M S a w K Q k hs hv hK
  simp only [AVal, ho] at hv
  split at hv
  · rename_i kt et hu
    split at hv
    · rename_i kind z n key hkt hz hx hi
      split at hv
      · rename_i es hown
        split at hv
        · rename_i q hq
          have hv' : simpleKey kind = true ∧ k { val := if commaOk = true then .tup [.d (q.getD z), .d (.v (.bool q.isSome))] else .d (q.getD z), acc := [n] } := by
            cases commaOk with
            | true => exact ⟨hv.1, hv.2.2⟩
            | false => exact ⟨hv.1, hv.2.2⟩
          clear hv
          obtain ⟨hsk, hk⟩ := hv'
          have ei : a.eval i = key := by have := hs.ev i; rw [hi] at this; exact this.dv
          have hxv := hs.ev x
          rw [hx] at hxv
          generalize hxq : a.eval x = xv at hxv
          cases hxv with
          | mp n b hE =>
            obtain ⟨b', es', clock, h1, h2, h3, h4, h5⟩ := hs.own n _ hown
            rw [hE] at h1; cases h1
            obtain ⟨z', hz1, hz2⟩ := zeroX_spec hz
            have hm := MRep.of (M := M) (l := es'.toList) (es := es) (by simpa using h3) fun i e p he hp => h4 i e p (by simpa using he) hp
            have key' : ∃ v ok, (Instr.lookup t (.map (some b)) key commaOk).run C.P w = .ok (if commaOk then .tuple #[v, .bool ok] else v) w ∧ DRep M v (q.getD z) ∧ ok = q.isSome := by
              rcases findM_spec 0 hm hq with ⟨rfl, hf⟩ | ⟨j, v, d, rfl, hf, hd'⟩
              · refine ⟨z', false, ?_, hz2 M, rfl⟩
                simp only [Instr.lookup, Sem.run_bind, run_underlying hu, Result.andThen_ok, MapKept.run_getObj_map h2, Sem.run_pure, run_checkKey_simple hkt hsk, Instr.findKey, run_underlying hkt, hf, hz1]
                try (cases commaOk <;> rfl)
              · refine ⟨v, true, ?_, hd', rfl⟩
                simp only [Instr.lookup, Sem.run_bind, run_underlying hu, Result.andThen_ok, MapKept.run_getObj_map h2, Sem.run_pure, run_checkKey_simple hkt hsk, Instr.findKey, run_underlying hkt, hf]
                try (cases commaOk <;> rfl)
            obtain ⟨v, ok, hr, hdv, hok⟩ := key'
            subst hok
            refine wp_value (v := if commaOk then .tuple #[v, .bool q.isSome] else v) (w' := w) ?_ (hK _ _ _ _ _ hk (hs.app_val hd rfl ?_))
            · simp only [execOp, ho, hxq, ei, Sem.run_bind, hr, Result.andThen_ok, Sem.run_pure]
            · cases commaOk with
              | false => simp only [Bool.false_eq_true, if_false]; exact .d hdv
              | true =>
                simp only [if_true]
                refine .tup _ _ rfl fun i c y hc hy => ?_
                match i with
                | 0 => simp at hc hy; subst hc; subst hy; exact .d hdv
                | 1 => simp at hc hy; subst hc; subst hy; exact .d (.v _)
                | i + 2 => simp at hc
        · exact hv.elim
      · exact hv.elim
    · exact hv.elim
  · exact hv.elim

theorem ok_updM {t : TypeId} {x i y : Operand} (hrun : ∀ (ρ : Operand → Value) (w w' : World), (Instr.mapUpdate t (ρ x) (ρ i) (ρ y)).run C.P w = .ok () w' → (execOp ρ o).run C.P w = .ok .skip w')
    (hval : ∀ (ρ : Operand → H) (ω : Nat → Option Own) (k : Eff → Prop), AVal C.P nm o ρ ω k → updM C.P ρ ω t x i y k) : OpOk C nm o := by
  intro E M S a w K Q k hs hv hK
  have hv := hval _ _ _ hv
  simp only [updM] at hv
  split at hv
  · rename_i kt et hu
    split at hv
    · rename_i kind n key dv hkt hx hi hy
      split at hv
      · rename_i es hown
        split at hv
        · rename_i es2 hq
          obtain ⟨hsk, _, hk⟩ := hv
          have ei : a.eval i = key := by have := hs.ev i; rw [hi] at this; exact this.dv
          have ey : DRep M (a.eval y) dv := by have := hs.ev y; rw [hy] at this; exact this.toD
          have hxv := hs.ev x
          rw [hx] at hxv
          generalize hxq : a.eval x = xv at hxv
          cases hxv with
          | mp n b hE =>
            obtain ⟨b', es', clock, h1, h2, h3, h4, h5⟩ := hs.own n _ hown
            rw [hE] at h1; cases h1
            have hm := MRep.of (M := M) (l := es'.toList) (es := es) (by simpa using h3) fun i e p he hp => h4 i e p (by simpa using he) hp
            have hblt : b < w.heap.size := (Array.getElem?_eq_some_iff.1 h2).1
            have key' : ∃ (es3 : Array MapEntry) (clock' : Nat), (Instr.mapUpdate t (.map (some b)) key (a.eval y)).run C.P w = .ok () { w with heap := w.heap.setIfInBounds b (.map es3 clock') } ∧ es3.size = es2.length ∧
                ∀ (i : Nat) (e : MapEntry) (p : Value × D), es3[i]? = some e → es2[i]? = some p → e.key = p.1 ∧ DRep M e.val p.2 := by
              rcases setM_spec 0 hm hq with ⟨rfl, hf⟩ | ⟨j, v, e0, hf, he0, hsame, rfl, hj⟩
              · refine ⟨es'.push { key := key, val := a.eval y, born := clock }, clock + 1, ?_, by simp [h3], fun i e p he hp => ?_⟩
                · simp only [Instr.mapUpdate, Sem.run_bind, run_underlying hu, Result.andThen_ok, MapKept.run_getObj_map h2, run_checkKey_simple hkt hsk, Instr.findKey, run_underlying hkt, hf, Sem.run_pure, MapKept.run_setObj_map _ h2]
                · by_cases hi : i < es'.size
                  · rw [Array.getElem?_push_lt hi] at he
                    rw [List.getElem?_append_left (by omega)] at hp
                    exact h4 i e p (by rw [Array.getElem?_eq_getElem hi]; exact he) hp
                  · have hi2 : i = es'.size := by
                      have := (Array.getElem?_eq_some_iff.1 he).1
                      simp at this; omega
                    subst hi2
                    rw [h3, List.getElem?_append_right (by omega)] at hp
                    simp at he hp
                    subst he; subst hp
                    exact ⟨rfl, ey⟩
              · have hj' : j < es'.size := by omega
                have hge : es'[j]? = some e0 := by simpa using he0
                refine ⟨es'.modify j fun e => { e with key := key, val := a.eval y }, clock, ?_, by simp [h3], fun i e p he hp => ?_⟩
                · have hkeep : (Instr.keyThatStays (((es'[j]?).map (·.key)).getD key) key).run C.P w = .ok key w := by
                    simp only [Instr.keyThatStays, hge, Option.map_some, Option.getD_some, sameBits_of hsame, if_true, Sem.run_pure]
                  have h0 : 0 + j = j := Nat.zero_add j
                  rw [h0] at hf
                  simp only [Instr.mapUpdate, Sem.run_bind, run_underlying hu, Result.andThen_ok, MapKept.run_getObj_map h2, run_checkKey_simple hkt hsk, Instr.findKey, run_underlying hkt, hf, Sem.run_pure, hkeep, MapKept.run_setObj_map _ h2]
                · rw [Array.getElem?_modify] at he
                  by_cases hij : j = i
                  · subst hij
                    rw [if_pos rfl, hge] at he
                    rw [List.getElem?_set_self hj] at hp
                    simp at he hp
                    subst he; subst hp
                    exact ⟨rfl, ey⟩
                  · rw [if_neg hij] at he
                    rw [List.getElem?_set_ne hij] at hp
                    exact h4 i e p he hp
            obtain ⟨es3, clock', hr, hsz, hrep⟩ := key'
            refine wp_skip' (w' := { w with heap := w.heap.setIfInBounds b (.map es3 clock') }) ?_ ?_
            · exact hrun a.eval w _ (by rw [hxq, ei]; exact hr)
            · have hmv := hs.own_step (E' := E) (n := n) (d := n) (o' := .map es2) hown (w' := { w with heap := w.heap.setIfInBounds b (.map es3 clock') })
                (by rw [hE]; exact ⟨rfl, rfl, rfl, by simp, fun k hk hne => by simp only [blockOf] at hne; rw [Array.getElem?_setIfInBounds_ne (by intro e; subst e; exact hne rfl)]⟩) (fun _ _ => rfl) (.inl ⟨rfl, rfl⟩) (fun b' hb => .inl hb)
                (fun b' hb => by have := hs.block_lt hown hb; simpa using this)
                ⟨b, es3, clock', hE, by simp [hblt], hsz, hrep, fun k => ((hs.own n _ hown).block (b := b) (by rw [hE]; rfl)).2 k⟩
              have hp := hmv.put o.dst hd (HRep.junk undef)
              refine hK _ _ _ _ _ hk (hp.weaken (fun t x hx => .inl hx) (fun m p hm => ?_))
              simp only [AState.own?, AState.app, List.cons_append, List.nil_append, gt_cons] at hm ⊢
              by_cases hnm : n = m
              · rw [if_pos hnm] at hm ⊢; exact hm
              · rw [if_neg hnm] at hm ⊢; rw [if_neg hnm]; exact hm
        · exact hv.elim
      · exact hv.elim
    · exact hv.elim
  · exact hv.elim

theorem ok_mapUpdate {t : TypeId} {x i y : Operand} (ho : o.op = .mapUpdate t x i y) : OpOk C nm o :=
  ok_updM hd (x := x) (i := i) (y := y) (t := t) (fun ρ w w' h => by simp only [execOp, ho, Sem.run_bind, h, Result.andThen_ok, Sem.run_pure]) fun ρ ω k h => by simpa only [AVal, ho] using h

theorem ok_insert {t : TypeId} {x i y : Operand} (ho : o.op = .insert t x i y) : OpOk C nm o :=
  ok_updM hd (x := x) (i := i) (y := y) (t := t) (fun ρ w w' h => by simp only [execOp, ho, Sem.run_bind, h, Result.andThen_ok, Sem.run_pure]) fun ρ ω k h => by simpa only [AVal, ho] using h

theorem ok_range {t : TypeId} {x : Operand} (ho : o.op = .range t x) : OpOk C nm o := by
  intro E M S a w K Q k hs hv hK
  simp only [AVal, ho] at hv
  split at hv
  · rename_i s d hu hx hdst
    obtain ⟨hnw, hk⟩ := hv
    have hn := hnw (nm d) (by simp)
    have ex : a.eval x = .string s := by have := hs.ev x; rw [hx] at this; exact this.dv
    have hrun : (execOp a.eval o).run C.P w = .ok (.value (.pointer (some ⟨w.heap.size, 0, none⟩))) (w.alloc (.stringIter s 0)) := by
      simp only [execOp, ho, ex, Instr.range, Sem.run_bind, run_underlying hu, run_newObj_alloc, Result.andThen_ok, Sem.run_pure]
    refine wp_value hrun ?_
    have hnew : ∀ (k : Nat), M w.heap.size k = none := by
      intro k
      cases hm : M w.heap.size k with
      | none => rfl
      | some v => have := hs.cell_lt hm; omega
    have h1 := hs.own_new (E' := fun m => if m = nm d then .pointer (some ⟨w.heap.size, 0, none⟩) else E m) (d := nm d) (o' := .iter s 0) (World.grownBy_alloc w (.stringIter s 0) none)
      (fun m hm => by simp [hm]) hn.1 hn.2 (fun b hb => by simp [blockOf] at hb; omega)
      ⟨w.heap.size, by simp, heap_alloc_new w _, hnew⟩
    have h2 := h1.put o.dst hd (HRep.bp (nm d) 0 w.heap.size (by simp))
    exact hK _ _ _ _ _ hk (by rw [hdst] at h2 ⊢; exact h2.weaken (fun t x hx => .inl hx) (fun m p hm => hm))
  · exact hv.elim

omit hd in
theorem run_getObj_iter {P : Program} {w : World} {r : Nat} {s : ByteArray} {p : Nat} (hb : w.heap[r]? = some (.stringIter s p)) : (getObj r).run P w = .ok (.stringIter s p) w := by
  simp [getObj, Sem.run, hb]

omit hd in
theorem run_setObj_iter {P : Program} {w : World} {r : Nat} {s : ByteArray} {p : Nat} (o : Obj) (hb : w.heap[r]? = some (.stringIter s p)) : (setObj r o).run P w = .ok () { w with heap := w.heap.setIfInBounds r o } := by
  simp [setObj, Sem.run, hb]

theorem ok_next {x : Operand} {is : Bool} (ho : o.op = .next x is) : OpOk C nm o := by
  intro E M S a w K Q k hs hv hK
  cases is with
  | false => simp [AVal, ho] at hv
  | true =>
  simp only [AVal, ho] at hv
  split at hv
  · rename_i n off hx
    split at hv
    · rename_i s pos hown
      have hxv := hs.ev x
      rw [hx] at hxv
      generalize hxq : a.eval x = xv at hxv
      cases hxv with
      | bp n off b hE =>
        obtain ⟨b', g1, g2, g3⟩ := hs.own n _ hown
        rw [hE] at g1; cases g1
        have hblt : b < w.heap.size := (Array.getElem?_eq_some_iff.1 g2).1
        split at hv
        · rename_i hlt
          obtain ⟨rfl, _, hk⟩ := hv
          have hlt : pos < s.size := Nat.le_of_ble_eq_true hlt
          have hrun : (execOp a.eval o).run C.P w = .ok (.value (.tuple #[.bool true, .int .i64 pos, .int .i32 (Utf8.decode s pos).1])) { w with heap := w.heap.setIfInBounds b (.stringIter s (pos + (Utf8.decode s pos).2)) } := by
            simp only [execOp, ho, hxq, Instr.next, Sem.run_bind, run_getObj_iter g2, Result.andThen_ok, hlt, if_true, run_setObj_iter _ g2, Sem.run_pure, goInt]
          refine wp_value hrun ?_
          have hmv := hs.own_step (E' := E) (n := n) (d := n) (o' := .iter s (pos + (Utf8.decode s pos).2)) hown (w' := { w with heap := w.heap.setIfInBounds b (.stringIter s (pos + (Utf8.decode s pos).2)) })
            (by rw [hE]; exact ⟨rfl, rfl, rfl, by simp, fun k hk hne => by simp only [blockOf] at hne; rw [Array.getElem?_setIfInBounds_ne (by intro e; subst e; exact hne rfl)]⟩) (fun _ _ => rfl) (.inl ⟨rfl, rfl⟩) (fun b' hb => .inl hb)
            (fun b' hb => by have := hs.block_lt hown hb; simpa using this)
            ⟨b, hE, by simp [hblt], g3⟩
          have hp := hmv.put o.dst hd (x := .tup [.d (.v (.bool true)), .d (.v (.int .i64 pos)), .d (.v (.int .i32 (Utf8.decode s pos).1))]) (.tup #[.bool true, .int .i64 pos, .int .i32 (Utf8.decode s pos).1] _ rfl fun i c y hc hy => by
            match i with
            | 0 => simp at hc hy; subst hc; subst hy; exact .d (.v _)
            | 1 => simp at hc hy; subst hc; subst hy; exact .d (.v _)
            | 2 => simp at hc hy; subst hc; subst hy; exact .d (.v _)
            | i + 3 => simp at hc)
          refine hK _ _ _ _ _ hk (hp.weaken (fun t x hx => .inl hx) (fun m p hm => ?_))
          simp only [AState.own?, AState.app, List.cons_append, List.nil_append, gt_cons] at hm ⊢
          by_cases hnm : n = m
          · rw [if_pos hnm] at hm ⊢; exact hm
          · rw [if_neg hnm] at hm ⊢; rw [if_neg hnm]; exact hm
        · rename_i hlt
          obtain ⟨rfl, _, hk⟩ := hv
          have hlt : ¬ pos < s.size := fun h => by rw [show Nat.blt pos s.size = true from Nat.ble_eq_true_of_le h] at hlt; cases hlt
          have hrun : (execOp a.eval o).run C.P w = .ok (.value (.tuple #[.bool false])) w := by
            simp only [execOp, ho, hxq, Instr.next, Sem.run_bind, run_getObj_iter g2, Result.andThen_ok, hlt, if_false, Sem.run_pure]
          refine wp_value hrun (hK _ _ _ _ _ hk (hs.app_val hd rfl ?_))
          refine .tup #[.bool false] _ rfl fun i c y hc hy => ?_
          match i with
          | 0 => simp at hc hy; subst hc; subst hy; exact .d (.v _)
          | i + 1 => simp at hc
    · exact hv.elim
  · exact hv.elim

/-- EVERY OPERATION IS SOUND. -/
theorem ok_all : OpOk C nm o := by
  cases ho : o.op with
  | move x => exact ok_move hd (.inl ho)
  | assign x => exact ok_move hd (.inr ho)
  | pick c x y => exact ok_pick hd ho
  | alloc t => exact ok_alloc hd ho
  | box t x => exact ok_box hd ho
  | build t ps => exact ok_build hd ho
  | buildSlice t n ps => exact ok_buildSlice hd ho
  | load t x => exact ok_load hd ho
  | store t x y => exact ok_store hd ho
  | nilCheck x => exact ok_nilCheck hd ho
  | binOp op t x y t' => exact ok_binOp hd ho
  | unOp op t x => exact ok_unOp hd ho
  | convert s t x => exact ok_convert hd ho
  | makeFunc f a b => exact ok_makeFunc hd ho
  | makeSlice t l c => exact ok_makeSlice hd ho
  | makeMap t r => exact ok_makeMap hd ho
  | lookup t x i c => exact ok_lookup hd ho
  | mapUpdate t x i y => exact ok_mapUpdate hd ho
  | insert t x i y => exact ok_insert hd ho
  | range t x => exact ok_range hd ho
  | next x i => exact ok_next hd ho
  | slice t x lo hi mx => exact ok_slice hd ho
  | fieldAddr s x f => exact ok_fieldAddr hd ho
  | field s x f => exact ok_field hd ho
  | indexAddr t x i => exact ok_indexAddr hd ho
  | index t x i => exact ok_index hd ho
  | extract x i => exact ok_extract hd ho
  | call c =>
    cases hc : c.callee with
    | value f => exact ok_callFn hd ho hc
    | builtin b => exact ok_callBuiltin hd ho hc
    | invoke r m => intro E M S a w K Q k hs hv hK; simp [AVal, ho, hc] at hv
  | _ => intro E M S a w K Q k hs hv hK; simp [AVal, ho] at hv

end
end Go.Awp
