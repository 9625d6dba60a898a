/-
  The logic of abstract states: single operations are sound, fourth part: what makes no memory, and calls of builtins.
-/
import Derived.Test.YtdmggfegkaiaiaaGreatDoorAwpF
import Derived.Laws.IdiomStrings
import Derived.Laws.BytesString
import Derived.Laws.Cover4
namespace Go.Awp
set_option linter.unusedSectionVars false
variable [Inhabited GMem]
set_option linter.unusedSimpArgs false

theorem HRep.toD' {E : Env} {M : Mem} {v : Value} {x : D} (h : HRep E M v (.d x)) : DRep M v x := by
  cases h with
  | d h => exact h

theorem run_binInt {P : Program} {w : World} {op : BinOp} {t : TypeId} {k : IntKind} {x y : Int} {v : Value} (h : intBin op k x y = some v) :
    (binOp op t (.int k x) (.int k y)).run P w = .ok v w := by
  cases op <;> simp only [intBin, Option.some.injEq] at h <;> first | (subst h; simp [binOp, Op.intArith, Op.intCmp]; done) | (subst h; simp [binOp, Op.intBits, Bs.iand, Bs.ior, Bs.ixor, Bs.iandn]; done) | cases h

theorem eqGuard_int {P : Program} {w : World} {op : BinOp} {t : TypeId} {x y : Operand} {k k' : IntKind} {a b : Int} : (eqGuard op t x y (.int k a) (.int k' b)).run P w = .ok () w := by
  unfold eqGuard; cases op <;> rfl
theorem eqGuard_bool {P : Program} {w : World} {op : BinOp} {t : TypeId} {x y : Operand} {a b : Bool} : (eqGuard op t x y (.bool a) (.bool b)).run P w = .ok () w := by
  unfold eqGuard; cases op <;> rfl
theorem eqGuard_string {P : Program} {w : World} {op : BinOp} {t : TypeId} {x y : Operand} {a b : ByteArray} : (eqGuard op t x y (.string a) (.string b)).run P w = .ok () w := by
  unfold eqGuard; cases op <;> rfl

theorem run_equalIn_bool {P : Program} {w : World} {t : TypeId} (d : Nat) (a b : Bool) (hu : P.underlying t = some .bool) : (Op.equalIn (d + 1) t (.bool a) (.bool b)).run P w = .ok (a == b) w := by
  simp only [Op.equalIn, Sem.run_bind, run_underlying hu, Result.andThen_ok]; rfl

theorem run_eql_bool' {P : Program} {w : World} {t : TypeId} {a b : Bool} (hu : P.underlying t = some .bool) : (binOp .eql t (.bool a) (.bool b)).run P w = .ok (.bool (a == b)) w := by
  have h := run_equalIn_bool (w := w) 9999 a b hu
  simp only [binOp, Op.equal, Op.maxDepth, Sem.run_bind, h, Result.andThen_ok]; rfl

theorem run_neq_bool' {P : Program} {w : World} {t : TypeId} {a b : Bool} (hu : P.underlying t = some .bool) : (binOp .neq t (.bool a) (.bool b)).run P w = .ok (.bool (!(a == b))) w := by
  have h := run_equalIn_bool (w := w) 9999 a b hu
  simp only [binOp, Op.equal, Op.maxDepth, Sem.run_bind, h, Result.andThen_ok]; rfl

theorem eqGuard_slice {P : Program} {w : World} {op : BinOp} {t : TypeId} {x y : Operand} {a b : Option Addr} {n c n' c' : Nat} : (eqGuard op t x y (.slice a n c) (.slice b n' c')).run P w = .ok () w := by
  unfold eqGuard; cases op <;> rfl

theorem run_equalIn_slice {P : Program} {w : World} {t : TypeId} (d : Nat) (a : Option Addr) (n c : Nat) (hu : isSl P t = true) : (Op.equalIn (d + 1) t (.slice a n c) (.slice none 0 0)).run P w = .ok a.isNone w := by
  unfold isSl at hu
  split at hu
  · rename_i e he
    cases a with
    | none => simp only [Op.equalIn, Sem.run_bind, run_underlying he, Result.andThen_ok]; rfl
    | some a => simp only [Op.equalIn, Sem.run_bind, run_underlying he, Result.andThen_ok]; rfl
  · cases hu

theorem run_eql_slice {P : Program} {w : World} {t : TypeId} {a : Option Addr} {n c : Nat} (hu : isSl P t = true) : (binOp .eql t (.slice a n c) (.slice none 0 0)).run P w = .ok (.bool a.isNone) w := by
  have h := run_equalIn_slice (w := w) 9999 a n c hu
  simp only [binOp, Op.equal, Op.maxDepth, Sem.run_bind, h, Result.andThen_ok]; rfl
theorem run_neq_slice {P : Program} {w : World} {t : TypeId} {a : Option Addr} {n c : Nat} (hu : isSl P t = true) : (binOp .neq t (.slice a n c) (.slice none 0 0)).run P w = .ok (.bool (!a.isNone)) w := by
  have h := run_equalIn_slice (w := w) 9999 a n c hu
  simp only [binOp, Op.equal, Op.maxDepth, Sem.run_bind, h, Result.andThen_ok]; rfl

theorem eqGuard_ptr {P : Program} {w : World} {op : BinOp} {t : TypeId} {x y : Operand} {a b : Option Addr} : (eqGuard op t x y (.pointer a) (.pointer b)).run P w = .ok () w := by
  unfold eqGuard; cases op <;> rfl

theorem run_equalIn_ptr {P : Program} {w : World} {t : TypeId} (d : Nat) (a : Option Addr) (hu : isPtr P t = true) : (Op.equalIn (d + 1) t (.pointer a) (.pointer none)).run P w = .ok a.isNone w := by
  unfold isPtr at hu
  split at hu
  · rename_i e he
    cases a with
    | none => simp only [Op.equalIn, Sem.run_bind, run_underlying he, Result.andThen_ok]; rfl
    | some a => simp only [Op.equalIn, Sem.run_bind, run_underlying he, Result.andThen_ok]; rfl
  · cases hu

theorem run_eql_ptr {P : Program} {w : World} {t : TypeId} {a : Option Addr} (hu : isPtr P t = true) : (binOp .eql t (.pointer a) (.pointer none)).run P w = .ok (.bool a.isNone) w := by
  have h := run_equalIn_ptr (w := w) 9999 a hu
  simp only [binOp, Op.equal, Op.maxDepth, Sem.run_bind, h, Result.andThen_ok]; rfl
theorem run_neq_ptr {P : Program} {w : World} {t : TypeId} {a : Option Addr} (hu : isPtr P t = true) : (binOp .neq t (.pointer a) (.pointer none)).run P w = .ok (.bool (!a.isNone)) w := by
  have h := run_equalIn_ptr (w := w) 9999 a hu
  simp only [binOp, Op.equal, Op.maxDepth, Sem.run_bind, h, Result.andThen_ok]; rfl

theorem eqGuard_ern {P : Program} {w : World} {op : BinOp} {t : TypeId} {x : Operand} : (eqGuard op t x (.const .nilIface) .nilIface .nilIface).run P w = .ok () w := by
  unfold eqGuard; cases op <;> cases x <;> rfl
theorem eqGuard_ere {P : Program} {w : World} {op : BinOp} {t t' : TypeId} {x y : Operand} {v : Value} : (eqGuard op t x y (.iface t' v) .nilIface).run P w = .ok () w := by
  unfold eqGuard; cases op <;> rfl

theorem run_equalIn_if {P : Program} {w : World} {t : TypeId} (d : Nat) {v : Value} {M : Mem} {b : Bool} (hv : DRep M v (.er b)) (hu : isIf P t = true) : (Op.equalIn (d + 1) t v .nilIface).run P w = .ok (!b) w := by
  unfold isIf at hu
  split at hu
  · rename_i e he
    cases hv with
    | ern => simp only [Op.equalIn, Sem.run_bind, run_underlying he, Result.andThen_ok]; rfl
    | ere t' x => simp only [Op.equalIn, Sem.run_bind, run_underlying he, Result.andThen_ok]; rfl
  · cases hu

theorem run_eql_if {P : Program} {w : World} {t : TypeId} {v : Value} {M : Mem} {b : Bool} (hv : DRep M v (.er b)) (hu : isIf P t = true) : (binOp .eql t v .nilIface).run P w = .ok (.bool (!b)) w := by
  have h := run_equalIn_if (w := w) 9999 hv hu
  cases hv <;> (simp only [binOp, Op.equal, Op.maxDepth, Sem.run_bind, h, Result.andThen_ok]; rfl)
theorem run_neq_if {P : Program} {w : World} {t : TypeId} {v : Value} {M : Mem} {b : Bool} (hv : DRep M v (.er b)) (hu : isIf P t = true) : (binOp .neq t v .nilIface).run P w = .ok (.bool (!(!b))) w := by
  have h := run_equalIn_if (w := w) 9999 hv hu
  cases hv <;> (simp only [binOp, Op.equal, Op.maxDepth, Sem.run_bind, h, Result.andThen_ok]; rfl)

theorem runesFrom_eq (s : ByteArray) : ∀ (n i : Nat) (acc : Array Value), Conv.runesFrom s n i acc = acc ++ ((Bs.runesAt s n i).map (Value.int .i32)).toArray
  | 0, _, acc => by simp [Conv.runesFrom, Bs.runesAt]
  | n + 1, i, acc => by
    unfold Conv.runesFrom Bs.runesAt
    split
    · show Conv.runesFrom s n (i + (Utf8.decode s i).2) (acc.push (.int .i32 (Int.ofNat (Utf8.decode s i).1))) = _
      rw [runesFrom_eq s n]
      simp
    · simp

theorem intsD_spec {k : IntKind} : ∀ {rows : List (List D)} {ns : List Int}, intsD k rows = some ns → rows = ns.map (row1 k)
  | [], ns, h => by simp [intsD] at h; subst h; rfl
  | r :: rest, ns, h => by
    unfold intsD at h
    split at h
    · rename_i heq; cases heq
    · rename_i k' n r' heq
      simp only [List.cons.injEq] at heq
      obtain ⟨rfl, rfl⟩ := heq
      split at h
      · rename_i hk
        split at h
        · rename_i l hl
          simp only [Option.some.injEq] at h
          subst h; subst hk
          rw [intsD_spec hl]; rfl
        · cases h
      · cases h
    · cases h

theorem foldl_push (ns : List Int) : ∀ s : ByteArray, ns.foldl (fun r n => r.push (UInt8.ofNat n.toNat)) s = s ++ Bs.bytes ns := by
  induction ns with
  | nil => intro s; simp [Bs.bytes]; apply ByteArray.ext; simp
  | cons n ns ih =>
    intro s
    rw [List.foldl_cons, ih]
    apply ByteArray.ext
    simp [Bs.bytes, ByteArray.push]

/-- The cells of a readonly slice of numbers. -/
theorem DRep.ints {M : Mem} {v : Value} {k : IntKind} {ns : List Int} (h : DRep M v (.sl 1 (ns.map (row1 k)))) :
    (v = .slice none 0 0 ∧ ns = []) ∨ (∃ a cap, v = .slice (some a) 0 cap ∧ ns = []) ∨ ∃ b off cap, v = .slice (some ⟨b, off, none⟩) ns.length cap ∧ ∀ (j : Nat) (n : Int), ns[j]? = some n → M b (off + j) = some (.int k n) := by
  generalize hq : D.sl 1 (ns.map (row1 k)) = q at h
  cases h with
  | slnil sz => simp only [D.sl.injEq] at hq; exact .inl ⟨rfl, by simpa using hq.2⟩
  | slmt a cap sz => simp only [D.sl.injEq] at hq; exact .inr (.inl ⟨a, cap, rfl, by simpa using hq.2⟩)
  | sl b off len cap sz rows c hlen hcap hsz hm hc =>
    simp only [D.sl.injEq] at hq
    obtain ⟨rfl, rfl⟩ := hq
    refine .inr (.inr ⟨b, off, cap, by rw [hlen]; simp, fun j n hj => ?_⟩)
    have hlt : j < ns.length := (List.getElem?_eq_some_iff.1 hj).1
    have h1 := hm j (by rw [hlen]; simpa using hlt)
    have h2 := hc j 0 (row1 k n) (.v (.int k n)) (by rw [List.getElem?_map, hj]; rfl) rfl
    simp only [Nat.mul_one, Nat.add_zero] at h2
    rw [h1]
    generalize c j = u at h2
    cases h2
    rfl
  | v x => cases hq
  | agg cs l hl h => cases hq
  | rp b off cells c hm h => cases hq
  | ern => cases hq
  | ere t x => cases hq

theorem ints_cells {P : Program} {w : World} {k : IntKind} {b off : Nat} {ns : List Int} (h : ∀ (j : Nat) (n : Int), ns[j]? = some n → w.cell? ⟨b, off + j, none⟩ = some (.int k n)) :
    (loadCells ⟨b, off, none⟩ ns.length).run P w = .ok (ns.map (Value.int k)).toArray w := by
  have := run_loadCells_list (P := P) w ⟨b, off, none⟩ (ns.map (Value.int k)) fun j v hv => by
    rw [List.getElem?_map, Option.map_eq_some_iff] at hv
    obtain ⟨n, hn, rfl⟩ := hv
    rw [addr_add]; exact h j n hn
  simpa using this

section
variable {C : Ctx} {nm : Nat → Nat} {o : Oper} (hd : ∀ d, o.dst = some d → d < C.N)
include hd

theorem ok_binOp {op : BinOp} {t t' : TypeId} {x y : Operand} (ho : o.op = .binOp op t x y t') : OpOk C nm o := by
  intro E M S a w K Q k hs hv hK
  simp only [AVal, ho] at hv
  have hx := hs.ev x
  have hy := hs.ev y
  have fin : ∀ (va vb r : Value), a.eval x = va → a.eval y = vb → (eqGuard op t x y va vb).run C.P w = .ok () w → (binOp op t va vb).run C.P w = .ok r w → k { val := .d (.v r) } → o.wp C.P a w K Q := by
    intro va vb r h1 h2 h3 h5 hk
    refine wp_value (v := r) (w' := w) ?_ (hK _ _ _ _ _ hk (hs.app_val hd rfl (.d (.v r))))
    simp [execOp, ho, h1, h2, h3, h5]
  split at hv
  · rename_i kx m ky n hex hey
    rw [hex] at hx; rw [hey] at hy
    have hx := hx.dv; have hy := hy.dv
    split at hv
    · rename_i v hb
      obtain ⟨rfl, hv⟩ := hv
      exact fin _ _ v hx hy eqGuard_int (run_binInt hb) hv.2
    · split at hv
      · obtain ⟨⟨rfl, hz⟩, hv⟩ := hv
        exact fin _ _ _ hx hy eqGuard_int (by simp [binOp, Op.intDiv, hz]) hv.2
      · obtain ⟨⟨rfl, hz⟩, hv⟩ := hv
        exact fin _ _ _ hx hy eqGuard_int (by simp [binOp, Op.intDiv, hz]) hv.2
      · obtain ⟨hz, hv⟩ := hv
        exact fin _ _ _ hx hy eqGuard_int (by simp [binOp, Op.shift, Int.not_lt.2 hz, Bs.ishl]) hv.2
      · obtain ⟨hz, hv⟩ := hv
        exact fin _ _ _ hx hy eqGuard_int (by simp [binOp, Op.shift, Int.not_lt.2 hz, Bs.ishr]) hv.2
      · exact hv.elim
  · rename_i m n hex hey
    rw [hex] at hx; rw [hey] at hy
    have hx := hx.dv; have hy := hy.dv
    split at hv
    · obtain ⟨hu, hv⟩ := hv
      exact fin _ _ _ hx hy eqGuard_bool (run_eql_bool' hu) hv.2
    · obtain ⟨hu, hv⟩ := hv
      exact fin _ _ _ hx hy eqGuard_bool (run_neq_bool' hu) hv.2
    · exact hv.elim
  · rename_i m n hex hey
    rw [hex] at hx; rw [hey] at hy
    have hx := hx.dv; have hy := hy.dv
    split at hv
    · exact fin _ _ _ hx hy eqGuard_string (by simp [binOp, Op.stringOp]) hv.2
    · exact fin _ _ _ hx hy eqGuard_string (by simp [binOp, Op.stringOp]) hv.2
    · obtain ⟨hle, hv⟩ := hv
      refine fin _ _ _ hx hy eqGuard_string ?_ hv.2
      have h63 : ¬ (((m.size + n.size : Nat) : Int) > IntKind.i64.max) := by
        have : IntKind.i64.max = 9223372036854775807 := by decide
        rw [this]; omega
      simp only [binOp, Op.stringOp]
      rw [if_neg h63]
      rfl
    · exact hv.elim
  · rename_i ad n c hex hey
    rw [hex] at hx; rw [hey] at hy
    have hx := hx.dv; have hy := hy.dv
    split at hv
    · obtain ⟨hu, hv⟩ := hv
      exact fin _ _ _ hx hy eqGuard_slice (run_eql_slice hu) hv.2
    · obtain ⟨hu, hv⟩ := hv
      exact fin _ _ _ hx hy eqGuard_slice (run_neq_slice hu) hv.2
    · exact hv.elim
  · rename_i sz r rs hex hey
    rw [hex] at hx; rw [hey] at hy
    have hy := hy.dv
    obtain ⟨ad, n, c, hx⟩ : ∃ (ad : Addr) (n c : Nat), a.eval x = .slice (some ad) n c := by
      generalize a.eval x = u at hx
      cases hx with
      | d hd => cases hd with
        | sl b off len cap _ _ _ => exact ⟨_, _, _, rfl⟩
    split at hv
    · obtain ⟨hu, hv⟩ := hv
      exact fin _ _ _ hx hy eqGuard_slice (run_eql_slice hu) hv.2
    · obtain ⟨hu, hv⟩ := hv
      exact fin _ _ _ hx hy eqGuard_slice (run_neq_slice hu) hv.2
    · exact hv.elim
  · rename_i n b hex hey
    rw [hex] at hx; rw [hey] at hy
    have hy := hy.dv
    obtain ⟨p, hx, hb⟩ : ∃ p : Option Addr, a.eval x = .pointer p ∧ p.isNone = !b := by
      generalize a.eval x = u at hx
      cases hx with
      | np0 => exact ⟨_, rfl, rfl⟩
      | np1 => exact ⟨_, rfl, rfl⟩
    split at hv
    · obtain ⟨hu, hv⟩ := hv
      exact fin _ _ _ hx hy eqGuard_ptr (run_eql_ptr hu) (by rw [hb]; exact hv.2)
    · obtain ⟨hu, hv⟩ := hv
      exact fin _ _ _ hx hy eqGuard_ptr (run_neq_ptr hu) (by rw [hb, Bool.not_not]; exact hv.2)
    · exact hv.elim
  · rename_i b hex hey
    rw [hex] at hx; rw [hey] at hy
    have hy := hy.dv
    have hx := hx.toD'
    have hg : ∀ op, y = .const .nilIface → (eqGuard op t x y (a.eval x) .nilIface).run C.P w = .ok () w := by
      intro op hyc
      subst hyc
      generalize a.eval x = u at hx
      cases hx with
      | ern => exact eqGuard_ern
      | ere t' v => exact eqGuard_ere
    split at hv
    · obtain ⟨⟨hu, hyc⟩, hv⟩ := hv
      exact fin _ _ _ rfl hy (hg _ hyc) (run_eql_if hx hu) hv.2
    · obtain ⟨⟨hu, hyc⟩, hv⟩ := hv
      exact fin _ _ _ rfl hy (hg _ hyc) (run_neq_if hx hu) (by rw [Bool.not_not]; exact hv.2)
    · exact hv.elim
  · exact hv.elim

theorem ok_unOp {op : UnOp} {t : TypeId} {x : Operand} (ho : o.op = .unOp op t x) : OpOk C nm o := by
  intro E M S a w K Q k hs hv hK
  simp only [AVal, ho] at hv
  have hx := hs.ev x
  split at hv
  · rename_i b he
    rw [he] at hx; have hx := hx.dv
    exact wp_value (v := .bool (!b)) (w' := w) (by simp [execOp, ho, hx, Op.unary]) (hK _ _ _ _ _ hv.2 (hs.app_val hd rfl (.d (.v _))))
  · rename_i ki n he
    rw [he] at hx; have hx := hx.dv
    exact wp_value (v := .int ki (ki.wrap (0 - n))) (w' := w) (by simp [execOp, ho, hx, Op.unary, Op.intArith]) (hK _ _ _ _ _ hv.2 (hs.app_val hd rfl (.d (.v _))))
  · exact hv.elim

theorem ok_convert {s t : TypeId} {x : Operand} (ho : o.op = .convert s t x) : OpOk C nm o := by
  intro E M S a w K Q k hs hv hK
  simp only [AVal, ho] at hv
  have hx := hs.ev x
  split at hv
  · rename_i ds ki kk n h1 h2 he
    rw [he] at hx; have hx := hx.dv
    refine wp_value (v := .int ki (ki.wrap n)) (w' := w) ?_ (hK _ _ _ _ _ hv.2 (hs.app_val hd rfl (.d (.v _))))
    cases ds <;> simp [execOp, ho, hx, convert, run_underlying h1, run_underlying h2, Conv.intToInt]
  · rename_i ds kk n h1 h2 he
    rw [he] at hx; have hx := hx.dv
    refine wp_value (v := .string (Bs.enc1 n)) (w' := w) ?_ (hK _ _ _ _ _ hv.2 (hs.app_val hd rfl (.d (.v _))))
    cases ds <;> simp [execOp, ho, hx, convert, run_underlying h1, run_underlying h2, Conv.intToString, Bs.enc1]
  · rename_i e s' h1 h2 he
    rw [he] at hx; have hx := hx.dv
    split at hv
    · rename_i d hu hdst
      obtain ⟨hsz, hnw, hk⟩ := hv
      have hn := hnw (nm d) (by simp)
      have hrf : Conv.runesFrom s' s'.size 0 #[] = ((Bs.runes s').map (Value.int .i32)).toArray := by rw [runesFrom_eq]; simp [Bs.runes]
      have hrs : (Conv.runesFrom s' s'.size 0 #[]).size = (Bs.runes s').length := by rw [hrf]; simp
      have hr := run_runes_of_string (P := C.P) w s t e s' h1 h2 hu (by rw [hrs]; omega)
      rw [hrs, hrf] at hr
      have hge := grownCap_ge w (Bs.runes s').length 0 e
      have hle := grownCap_le_maxLen w (Bs.runes s').length 0 e (by have : (1000000000000 : Nat) ≤ maxLen := by decide
                                                                    omega)
      generalize hcap : grownCap w (Bs.runes s').length 0 e = cap at hr hge hle
      refine wp_value (v := .slice (some ⟨w.heap.size, 0, none⟩) (Bs.runes s').length cap) (w' := w.drew.alloc (.cells (((Bs.runes s').map (Value.int .i32)).toArray ++ Array.replicate (cap - (Bs.runes s').length) (.int .i32 0)) e)) (by simp [execOp, ho, hx, hr]) ?_
      have hnew : ∀ (k : Nat), M w.heap.size k = none := by
        intro k
        cases hm : M w.heap.size k with
        | none => rfl
        | some v => have := hs.cell_lt hm; omega
      have h1 := hs.drew.own_new (E' := fun m => if m = nm d then .slice (some ⟨w.heap.size, 0, none⟩) (Bs.runes s').length cap else E m) (d := nm d) (o' := .vec e 1 ((Bs.runes s').map (row1 .i32)))
        (World.grownBy_alloc w.drew (.cells (((Bs.runes s').map (Value.int .i32)).toArray ++ Array.replicate (cap - (Bs.runes s').length) (.int .i32 0)) e) none)
        (fun m hm => by simp [hm]) hn.1 hn.2 (fun b hb => by
          have : w.drew.heap.size = w.heap.size := rfl
          simp [blockOf] at hb; omega)
        ⟨(Bs.runes s').map (Value.int .i32), ⟨by simp, .inr ⟨w.heap.size, cap, _, by simp, Nat.zero_le _, heap_alloc_new w.drew _, by simpa using hge, hle, by simp; omega, by simp⟩⟩, fun r hr => by
            obtain ⟨n, _, rfl⟩ := List.mem_map.1 hr; rfl, fun i j r c x hr hx hc => by
            rw [List.getElem?_map, Option.map_eq_some_iff] at hr
            obtain ⟨n, hn', rfl⟩ := hr
            cases j with
            | zero =>
              simp only [row1, List.getElem?_cons_zero, Option.some.injEq] at hx
              subst hx
              simp only [Nat.mul_one, Nat.add_zero, List.getElem?_map, hn', Option.map_some, Option.some.injEq] at hc
              subst hc; exact .v _
            | succ j => simp [row1] at hx, fun b hb k => by simp [blockOf] at hb; subst hb; exact hnew k⟩
      have h2 := h1.put o.dst hd (HRep.vh (nm d) (Bs.runes s').length _ cap (some ⟨w.heap.size, 0, none⟩) (by simp) (Nat.le_refl _))
      exact hK _ _ _ _ _ hk (by rw [hdst] at h2 ⊢; exact h2.weaken (fun t x hx => .inl hx) (fun m p hm => hm))
    · exact hv.elim
  · rename_i e z rows h1 h2 he
    rw [he] at hx
    generalize hq : a.eval x = q at hx
    have hx := hx.toD'
    split at hv
    · rename_i hu
      split at hv
      · rename_i ns hns
        obtain ⟨rfl, hv⟩ := hv
        rw [intsD_spec hns] at hx
        refine wp_value (v := .string (Bs.text ns)) (w' := w) ?_ (hK _ _ _ _ _ hv.2 (hs.app_val hd rfl (.d (.v _))))
        simp only [execOp, ho, hq, convert, Sem.run_bind, run_underlying h1, run_underlying h2, run_underlying hu, Result.andThen_ok]
        rcases hx.ints with ⟨rfl, rfl⟩ | ⟨ad, cap, rfl, rfl⟩ | ⟨b, off, cap, rfl, hc⟩
        · simp [Conv.runesToString, Bs.text, run_underlying h1, run_underlying h2, run_underlying hu]
        · have := run_runesToString (P := C.P) w ad 0 cap [] (run_loadCells_list (P := C.P) w ad [] fun j v hv => by simp at hv)
          simp [run_underlying h1, run_underlying h2, run_underlying hu, this, Bs.text, runesBytes]
        · have := run_runesToString (P := C.P) w ⟨b, off, none⟩ ns.length cap ns (ints_cells fun j n hj => hs.mem _ _ _ (hc j n hj))
          simp [run_underlying h1, run_underlying h2, run_underlying hu, this, Bs.text, runesBytes]
      · exact hv.elim
    · rename_i hu
      split at hv
      · rename_i ns hns
        obtain ⟨rfl, hv⟩ := hv
        rw [intsD_spec hns] at hx
        refine wp_value (v := .string (Bs.bytes ns)) (w' := w) ?_ (hK _ _ _ _ _ hv.2 (hs.app_val hd rfl (.d (.v _))))
        simp only [execOp, ho, hq, convert, Sem.run_bind, run_underlying h1, run_underlying h2, run_underlying hu, Result.andThen_ok]
        rcases hx.ints with ⟨rfl, rfl⟩ | ⟨ad, cap, rfl, rfl⟩ | ⟨b, off, cap, rfl, hc⟩
        · simp only [run_underlying h2, run_underlying hu, Result.andThen_ok, Conv.bytesToString, Sem.run_bind, Sem.run_pure]
          rfl
        · have := run_bytesToString (P := C.P) w ad 0 cap [] (run_loadCells_list (P := C.P) w ad [] fun j v hv => by simp at hv)
          simp only [run_underlying h2, run_underlying hu, Result.andThen_ok, Sem.run_bind, this, Sem.run_pure]
          rfl
        · have := run_bytesToString (P := C.P) w ⟨b, off, none⟩ ns.length cap ns (ints_cells fun j n hj => hs.mem _ _ _ (hc j n hj))
          simp [run_underlying h1, run_underlying h2, run_underlying hu, this, foldl_push]
      · exact hv.elim
    · exact hv.elim
  · rename_i e h1 h2 he
    rw [he] at hx; have hx := hx.dv
    split at hv
    · rename_i hu
      refine wp_value (v := .string ByteArray.empty) (w' := w) ?_ (hK _ _ _ _ _ hv.2 (hs.app_val hd rfl (.d (.v _))))
      simp [execOp, ho, hx, convert, run_underlying h1, run_underlying h2, run_underlying hu, Conv.runesToString]
    · rename_i hu
      refine wp_value (v := .string ByteArray.empty) (w' := w) ?_ (hK _ _ _ _ _ hv.2 (hs.app_val hd rfl (.d (.v _))))
      simp [execOp, ho, hx, convert, run_underlying h1, run_underlying h2, run_underlying hu, Conv.bytesToString]
    · exact hv.elim
  · exact hv.elim

theorem ok_extract {x : Operand} {i : Nat} (ho : o.op = .extract x i) : OpOk C nm o := by
  intro E M S a w K Q k hs hv hK
  simp only [AVal, ho] at hv
  have hx := hs.ev x
  split at hv
  · rename_i vs he
    rw [he] at hx
    obtain ⟨cs, h1, h2, h3⟩ := hx.htup
    split at hv
    · rename_i y hy
      have hi : i < cs.size := by have := (List.getElem?_eq_some_iff.1 hy).1; omega
      refine wp_value (v := cs[i]) (w' := w) ?_ (hK _ _ _ _ _ hv.2 (hs.app_val hd rfl (h3 i _ y (Array.getElem?_eq_getElem hi) hy)))
      simp [execOp, ho, h1, Instr.extract, hi]
    · exact hv.elim
  · exact hv.elim

theorem ok_makeFunc {fn : Fn} {first captured : Array Operand} (ho : o.op = .makeFunc fn first captured) : OpOk C nm o := by
  intro E M S a w K Q k hs hv hK
  simp only [AVal, ho] at hv
  split at hv
  · rename_i f
    have key : ∀ (l : Array Operand) (i : Nat) (c : Value) (x : H), (l.map a.eval)[i]? = some c → (l.toList.map (Go.Awp.ev S))[i]? = some x → HRep E M c x := by
      intro l i c x hc hx
      simp only [Array.getElem?_map, List.getElem?_map, Array.getElem?_toList] at hc hx
      cases hl : l[i]? with
      | none => rw [hl] at hc; cases hc
      | some y => rw [hl] at hc hx; simp at hc hx; subst hc; subst hx; exact hs.ev y
    refine wp_value (v := .func (.func f) (first.map a.eval) (captured.map a.eval)) (w' := w) (by simp [execOp, ho, Instr.makeFunc]) (hK _ _ _ _ _ hv.2 (hs.app_val hd rfl ?_))
    exact .fn f _ _ _ _ (by simp) (by simp) (key first) (key captured)
  · exact hv.elim

theorem ok_index {t : TypeId} {x i : Operand} (ho : o.op = .index t x i) : OpOk C nm o := by
  intro E M S a w K Q k hs hv hK
  simp only [AVal, ho] at hv
  have hx := hs.ev x
  have hi := hs.ev i
  split at hv
  · rename_i s kk n h1 he hei
    rw [he] at hx; rw [hei] at hi
    have hx := hx.dv; have hi := hi.dv
    split at hv
    · rename_i b hb
      obtain ⟨h0, hv⟩ := hv
      refine wp_value (v := .int .u8 b.toNat) (w' := w) ?_ (hK _ _ _ _ _ hv.2 (hs.app_val hd rfl (.d (.v _))))
      simp [execOp, ho, hx, hi, Instr.index, asIntOf, run_underlying h1, h0, hb]
    · exact hv.elim
  · exact hv.elim

theorem ok_indexAddr {t : TypeId} {x i : Operand} (ho : o.op = .indexAddr t x i) : OpOk C nm o := by
  intro E M S a w K Q k hs hv hK
  simp only [AVal, ho] at hv
  have hx := hs.ev x
  have hi := hs.ev i
  split at hv
  · rename_i e sz by_ ht
    have hel : ∃ ii, C.P.underlying t = some (.slice e) ∧ C.P.info? e = some ii ∧ ii.size = sz := by
      unfold elemTy at ht
      split at ht
      · rename_i e' hu
        split at ht
        · rename_i ii hii
          split at ht
          · split at ht
            · simp at ht; obtain ⟨rfl, rfl, rfl⟩ := ht; exact ⟨ii, hu, hii, rfl⟩
            · cases ht
          · cases ht
        · cases ht
      · cases ht
    obtain ⟨ii, hu, hii, hsz⟩ := hel
    have run : ∀ (b off len cap : Nat) (kk : IntKind) (n : Int), a.eval x = .slice (some ⟨b, off, none⟩) len cap → a.eval i = .int kk n → 0 ≤ n → n < len →
        (execOp a.eval o).run C.P w = .ok (.value (.pointer (some ⟨b, off + n.toNat * sz, none⟩))) w := by
      intro b off len cap kk n h1 h2 h3 h4
      simp [execOp, ho, h1, h2, Instr.indexAt, asIntOf, run_underlying hu, sizeOf, typeInfo, hii, hsz, h3, h4, addr_add]
    split at hv
    · rename_i sz' rows kk n he hei
      rw [he] at hx; rw [hei] at hi
      have hi := hi.dv
      split at hv
      · rename_i r hr
        obtain ⟨⟨rfl, h0⟩, hv⟩ := hv
        have hlt : n.toNat < rows.length := (List.getElem?_eq_some_iff.1 hr).1
        generalize hq : a.eval x = q at hx
        cases hx with
        | d hx => cases hx with
          | slnil => simp at hlt
          | slmt => simp at hlt
          | sl b off len cap sz rows c hlen hcap hszs hm h =>
            have hrl := hszs r (List.mem_of_getElem? hr)
            have hmul : (n.toNat + 1) * sz ≤ len * sz := Nat.mul_le_mul_right _ (by omega)
            rw [Nat.succ_mul] at hmul
            refine wp_value (run b off len cap kk n hq hi h0 (by omega)) (hK _ _ _ _ _ hv.2 (hs.app_val hd rfl (.d ?_)))
            refine .rp b _ r (fun j => c (n.toNat * sz + j)) (fun j hj => ?_) fun j x hx => h n.toNat j r x hr hx
            rw [Nat.add_assoc]; exact hm _ (by omega)
      · exact hv.elim
    · rename_i m len kk n he hei
      rw [he] at hx; rw [hei] at hi
      have hi := hi.dv
      split at hv
      · rename_i e' s' rows hc
        obtain ⟨⟨h0, h1⟩, hv⟩ := hv
        generalize hq : a.eval x = q at hx
        cases hx with
        | vh m len l c ad hE hl =>
          obtain ⟨xs, ho1, ho2, ho3, ho4⟩ := hs.own m _ hc
          rcases ho1.2 with ⟨hn, hz⟩ | ⟨g, cap, cur, hv', _⟩
          · rw [hE] at hn; cases hn; omega
          · rw [hE] at hv'; simp at hv'; obtain ⟨rfl, rfl, rfl⟩ := hv'
            refine wp_value (run g 0 len c kk n hq hi h0 (by omega)) (hK _ _ _ _ _ hv.2 (hs.app_val hd rfl ?_))
            have := HRep.ep (E := E) (M := M) m sz n.toNat 0 g _ _ hE (by omega)
            simpa using this
      · exact hv.elim
    · exact hv.elim
  · exact hv.elim

end
end Go.Awp
