/-
  Typed states: contracts of library functions, out of what the kit's shelf says of calls.
-/
import Derived.Test.YtdmggfegkaiaiaaGreatDoorTxR
namespace Go.Tx
open Go.Awp
set_option linter.unusedSectionVars false
variable [Inhabited GMem]
set_option linter.unusedSimpArgs false

/-- A function that is handed plain values and leaves all old memory as it is. -/
theorem FnOk.pure {P : Program} {f : FuncId} {args : List H} {r : H} (hc : callable P f = true)
    (h : ∀ (E : Env) (M : Mem) (w : World) (vs : Array Value), GOk M w → (∀ b o v, M b o = some v → w.cell? ⟨b, o, none⟩ = some v) → HReps E M vs args →
      Calls P f vs w fun e w' => ∃ v, e = .returned v ∧ HRep E M v r ∧ Go.RowKit.Below w.heap.size w w') : FnOk P f args [] r [] := by
  refine ⟨hc, fun E M w vs hgm hm _ hvs => (h E M w vs hgm hm hvs).mono ?_⟩
  rintro e w' ⟨v, rfl, hr, hb⟩
  refine ⟨v, E, M, rfl, { rep := hr, owns := ⟨fun n o hn => by simp [gt] at hn, fun n m o o' b _ hn => by simp [gt] at hn⟩, mle := Mem.le_refl _, mem := fun b o v hv => ?_, mnew := fun b o v hv => .inl hv, home := fun n o b hn => by simp [gt] at hn, frame := fun k hk _ => hb.block k hk, grows := hb.size, os := hb.os, tape := hb.tape, output := hb.output, env := fun _ _ => rfl }⟩
  have h1 := hm b o v hv
  have hlt := World.block_lt_of_cell? w (a := ⟨b, o, none⟩) h1
  rw [← h1]
  exact World.cell?_of_block (a := ⟨b, o, none⟩) (hb.block b hlt)

theorem hreps_one {E : Env} {M : Mem} {vs : Array Value} {a : H} (h : HReps E M vs [a]) : ∃ v, vs = #[v] ∧ HRep E M v a := by
  obtain ⟨h1, h2⟩ := h
  match vs, h1 with
  | ⟨[v]⟩, _ => exact ⟨v, rfl, h2 0 v a rfl rfl⟩

theorem hreps_two {E : Env} {M : Mem} {vs : Array Value} {a b : H} (h : HReps E M vs [a, b]) : ∃ v u, vs = #[v, u] ∧ HRep E M v a ∧ HRep E M u b := by
  obtain ⟨h1, h2⟩ := h
  match vs, h1 with
  | ⟨[v, u]⟩, _ => exact ⟨v, u, rfl, h2 0 v a rfl rfl, h2 1 u b rfl rfl⟩

theorem hrep_pair {E : Env} {M : Mem} {k k' : IntKind} {a b : Int} : HRep E M (.tuple #[.int k a, .int k' b]) (.tup [.d (.v (.int k a)), .d (.v (.int k' b))]) :=
  .tup _ _ rfl fun i c x hc hx => by
    match i with
    | 0 => simp at hc hx; subst hc; subst hx; exact .d (.v _)
    | 1 => simp at hc hx; subst hc; subst hx; exact .d (.v _)
    | i + 2 => simp at hc

theorem below_alloc (w : World) (o : Obj) : Go.RowKit.Below w.heap.size w (w.alloc o) :=
  have h := World.grownBy_alloc w o none
  ⟨h.os, h.tape, h.output, h.size, fun k hk => h.block k hk (by simp)⟩

theorem below_two (w : World) (o o' : Obj) : Go.RowKit.Below w.heap.size w ((w.alloc o).alloc o') := by
  have h := below_alloc w o
  have h2 := below_alloc (w.alloc o) o'
  exact ⟨h2.os.trans h.os, h2.tape.trans h.tape, h2.output.trans h.output, Nat.le_trans h.size h2.size, fun k hk => (h2.block k (Nat.lt_of_lt_of_le hk h.size)).trans (h.block k hk)⟩

/-- A written builder knows where it lies. -/
theorem FnOk.copyCheck {P : Program} {f : FuncId} {T : TypeId} (hc : callable P f = true)
    (fresh : ∀ (b : Nat) (w : World), w.cell? ⟨b, 0, none⟩ = some (.pointer none) → w.shape? b = some (T, 2) → w.frozen? ⟨b, 0, none⟩ = false →
      Calls P f #[.pointer (some ⟨b, 0, none⟩)] w fun e w' => e = .returned (.tuple #[]) ∧ w' = w.setCell ⟨b, 0, none⟩ (.pointer (some ⟨b, 0, none⟩)))
    (used : ∀ (b : Nat) (w : World), w.cell? ⟨b, 0, none⟩ = some (.pointer (some ⟨b, 0, none⟩)) → 
      Calls P f #[.pointer (some ⟨b, 0, none⟩)] w fun e w' => e = .returned (.tuple #[]) ∧ w' = w)
    {g m c l : Nat} {bl : Bool} {e sz : Nat} {rows : List (List D)} (hgm : g ≠ m) (hgc : g ≠ c) (hcg : c < given) :
    FnOk P f [.bp g 0] [(g, .box (some T) [.np g bl, .vh m l]), (m, .vec e sz rows)] (.tup []) [(g, .box (some T) [.np g true, .vh c l]), (c, .vec e sz rows)] := by
  refine ⟨hc, fun E M w vs _ hm how hvs => ?_⟩
  obtain ⟨v, rfl, hv⟩ := hreps_one hvs
  have g1 : gt [(g, Own.box (some T) [H.np g bl, H.vh m l]), (m, Own.vec e sz rows)] g = some (.box (some T) [.np g bl, .vh m l]) := by simp [gt]
  have g2 : gt [(g, Own.box (some T) [H.np g bl, H.vh m l]), (m, Own.vec e sz rows)] m = some (.vec e sz rows) := by simp [gt, hgm]
  have o1 := how.ok g _ g1
  have o2 := how.ok m _ g2
  obtain ⟨b, cs, ty, k1, k2, k3, k4, k5, k6⟩ := o1
  have hty := k6 T rfl
  subst hty
  cases hv with
  | bp n off b' hE =>
  rw [hE] at k1; cases k1
  obtain ⟨p, q, rfl⟩ : ∃ p q, cs = #[p, q] := by
    match cs, k3 with
    | ⟨[p, q]⟩, _ => exact ⟨p, q, rfl⟩
  have hp := k4 0 p (.np g bl) rfl rfl
  have hq := k4 1 q (.vh m l) rfl rfl
  have hcell : ∀ u, w.cell? ⟨b, 0, none⟩ = some u ↔ p = u := fun u => by simp [World.cell?, k2]
  have hsh : w.shape? b = some (ty, 2) := by simp [World.shape?, k2]
  have hfz : w.frozen? ⟨b, 0, none⟩ = false := by simp [World.frozen?, k2]
  have hblt : b < w.heap.size := (Array.getElem?_eq_some_iff.1 k2).1
  have hapart : ∀ b', blockOf (E m) = some b' → b' ≠ b := fun b' hb' he => by
    subst he
    exact how.apart g m _ _ b' hgm g1 g2 (by rw [hE]; rfl) hb'
  let E' : Env := fun n => if n = c then E m else E n
  have hE' : ∀ n, n ≠ c → E' n = E n := fun n hn => by simp [E', hn]
  have hEc : E' c = E m := by simp [E']
  have hEg : E' g = .pointer (some ⟨b, 0, none⟩) := by rw [hE' g hgc]; exact hE
  have fin : ∀ w', w'.heap = w.heap.setIfInBounds b (.cells #[.pointer (some ⟨b, 0, none⟩), q] ty (0, 0)) → w'.os = w.os → w'.tape = w.tape → w'.output = w.output →
      FnPost E M [(g, .box (some ty) [.np g bl, .vh m l]), (m, .vec e sz rows)] w (.tuple #[]) (.tup []) [(g, .box (some ty) [.np g true, .vh c l]), (c, .vec e sz rows)] E' M w' := by
    intro w' hh h1 h2 h3
    have hother : ∀ k, k ≠ b → w'.heap[k]? = w.heap[k]? := fun k hk => by
      rw [hh, Array.getElem?_setIfInBounds_ne (fun e => hk e.symm)]
    have hblk : ∀ n o bb, gt [(g, Own.box (some ty) [H.np g true, H.vh c l]), (c, Own.vec e sz rows)] n = some o → blockOf (E' n) = some bb → (n = g ∧ bb = b) ∨ (n = c ∧ blockOf (E m) = some bb) := by
      intro n o bb hn hb
      rw [gt_cons] at hn
      by_cases hgn : g = n
      · subst hgn; rw [hEg] at hb; left; exact ⟨rfl, by simpa [blockOf] using hb.symm⟩
      · rw [if_neg hgn, gt_cons] at hn
        by_cases hcn : c = n
        · subst hcn; rw [hEc] at hb; right; exact ⟨rfl, hb⟩
        · rw [if_neg hcn] at hn; simp [gt] at hn
    refine { rep := .tup #[] [] rfl (fun i c x hc => by simp at hc), owns := ⟨fun n o hn => ?_, fun n n' o o' bb hne hn hn' hb hb' => ?_⟩, mle := Mem.le_refl _, mem := fun bb o v hv => ?_, mnew := fun bb o v hv => .inl hv, home := fun n o bb hn hb => ?_, frame := fun k hk hx => ?_, grows := ?_, os := h1, tape := h2, output := h3, env := fun n hn => ?_ }
    · rw [gt_cons] at hn
      by_cases hgn : g = n
      · subst hgn
        rw [if_pos rfl] at hn; cases hn
        refine ⟨b, #[.pointer (some ⟨b, 0, none⟩), q], ty, hEg, by rw [hh]; simp [hblt], rfl, fun i x y hx hy => ?_, k5, fun t ht => by cases ht; rfl⟩
        match i with
        | 0 => simp at hx hy; subst hx; subst hy; exact .np1 g b hEg
        | 1 =>
          simp at hx hy; subst hx; subst hy
          cases hq with
          | vh _ len l' cc ad hEm hl => exact HRep.vh c l l' cc ad (hEc.trans hEm) hl
        | i + 2 => simp at hx
      · rw [if_neg hgn, gt_cons] at hn
        by_cases hcn : c = n
        · subst hcn
          rw [if_pos rfl] at hn; cases hn
          have := o2.keep (E' := E) (M' := M) (w' := w') rfl (fun b' hb' => hother b' (hapart b' hb')) (fun _ _ => rfl) (Mem.le_refl _) fun b' hb' => (o2.block hb').2
          obtain ⟨xs, y1, y2, y3, y4⟩ := this
          exact ⟨xs, by rw [hEc]; exact y1, y2, y3, by rw [hEc]; exact y4⟩
        · rw [if_neg hcn] at hn; simp [gt] at hn
    · rcases hblk n o bb hn hb with ⟨rfl, rfl⟩ | ⟨rfl, h4⟩
      · rcases hblk n' o' bb hn' hb' with ⟨rfl, _⟩ | ⟨rfl, h5⟩
        · exact hne rfl
        · exact hapart bb h5 rfl
      · rcases hblk n' o' bb hn' hb' with ⟨rfl, rfl⟩ | ⟨rfl, h5⟩
        · exact hapart bb h4 rfl
        · exact hne rfl
    · have h4 := hm bb o v hv
      have hne : bb ≠ b := by rintro rfl; rw [k5 o] at hv; cases hv
      rw [← h4]
      exact World.cell?_of_block (a := ⟨bb, o, none⟩) (hother bb hne)
    · rcases hblk n o bb hn hb with ⟨rfl, rfl⟩ | ⟨rfl, h4⟩
      · exact .inl ⟨n, _, g1, by rw [hE]; rfl⟩
      · exact .inl ⟨m, _, g2, h4⟩
    · exact hother k fun e => hx ⟨g, _, g1, by rw [hE, e]; rfl⟩
    · rw [hh]; simp
    · exact hE' n (by omega)
  cases hp with
  | np0 =>
    refine (fresh b w ((hcell _).2 rfl) hsh hfz).mono ?_
    rintro e' w' ⟨rfl, rfl⟩
    refine ⟨_, E', M, rfl, fin _ ?_ rfl rfl rfl⟩
    simp only [World.setCell]
    apply Array.ext'
    rw [Array.toList_setIfInBounds]
    apply List.ext_getElem?
    intro k
    simp only [Array.toList_modify, List.getElem?_modify, List.getElem?_set, Array.getElem?_toList, Array.length_toList]
    by_cases hk : b = k
    · subst hk
      have k2' : w.heap[b] = .cells #[.pointer none, q] ty (0, 0) := by rw [Array.getElem?_eq_getElem hblt] at k2; exact Option.some.inj k2
      simp [hblt, k2']
    · simp [hk]
  | np1 _ b' hb' =>
    rw [hE] at hb'; cases hb'
    refine (used b w ((hcell _).2 rfl)).mono ?_
    rintro e' w' ⟨rfl, rfl⟩
    refine ⟨_, E', M, rfl, fin _ ?_ rfl rfl rfl⟩
    apply Array.ext'
    rw [Array.toList_setIfInBounds]
    apply List.ext_getElem?
    intro k
    simp only [List.getElem?_set, Array.getElem?_toList, Array.length_toList]
    by_cases hk : b = k
    · subst hk
      rw [k2]; simp [hblt]
    · simp [hk]
end Go.Tx
