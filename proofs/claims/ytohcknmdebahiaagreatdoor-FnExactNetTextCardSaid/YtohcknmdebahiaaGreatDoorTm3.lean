/- What each change of memory does to Mem. -/
import Derived.Test.YtohcknmdebahiaaGreatDoorTm2
set_option linter.unusedVariables false
namespace Go.Tm
open Go.RowKit

theorem heap_lt {w : World} {b : Nat} {o : Obj} (h : w.heap[b]? = some o) : b < w.heap.size := (Array.getElem?_eq_some_iff.1 h).1
theorem Mem.ob_lt {E : En} {g : Gh} {st : St} {w : World} (h : Mem E g st w) {s : Nat} (hs : st.O s) : g.ob s < w.heap.size := by
  obtain ⟨c, hc⟩ := Option.isSome_iff_exists.1 hs
  obtain ⟨arr, e, hh, _⟩ := h.ob s c hc
  exact heap_lt hh
theorem Mem.ob_nf {E : En} {g : Gh} {st : St} {w : World} (h : Mem E g st w) {s : Nat} (hs : st.O s) : ¬ g.F (g.ob s) ∧ (E.w0.heap.size ≤ g.ob s ∨ E.X (g.ob s)) := by
  obtain ⟨c, hc⟩ := Option.isSome_iff_exists.1 hs
  obtain ⟨arr, e, hh, _, _, h1, h2⟩ := h.ob s c hc
  exact ⟨h1, h2⟩
theorem own_lt {w : World} {base : Nat} {e : TypeId} {size n : Nat} {v : Value} {xs : List Value} (h : w.ownsRow base e size v n xs) {b : Nat} (hb : v.ownBlock = some b) : b < w.heap.size := (h.lt b hb).2
theorem Mem.row_lt {E : En} {g : Gh} {st : St} {w : World} (h : Mem E g st w) {r : Nat} (hr : st.L r) {b : Nat} (hb : (g.rw r).ownBlock = some b) : b < w.heap.size := by
  obtain ⟨e, sz, rows, hr⟩ := hr
  obtain ⟨inner, ho, _⟩ := h.row r _ hr
  exact own_lt ho hb
theorem Mem.row_nf {E : En} {g : Gh} {st : St} {w : World} (h : Mem E g st w) {r : Nat} (hr : st.L r) {b : Nat} (hb : (g.rw r).ownBlock = some b) : ¬ g.F b ∧ (E.w0.heap.size ≤ b ∨ E.X b) := by
  obtain ⟨e, sz, rows, hr⟩ := hr
  obtain ⟨inner, _, _, _, h1⟩ := h.row r _ hr
  exact h1 b hb
theorem own_wr {w : World} {base : Nat} {e : TypeId} {size n : Nat} {v : Value} {xs : List Value} (h : w.ownsRow base e size v n xs) {b : Nat} (hb : v.ownBlock = some b) : Wr w b := by
  rcases h.2 with ⟨rfl, _⟩ | ⟨g, cap, cur, rfl, _, hh, _⟩
  · cases hb
  · cases hb
    exact ⟨cur, e, hh⟩
theorem Mem.row_wr {E : En} {g : Gh} {st : St} {w : World} (h : Mem E g st w) {r : Nat} (hr : st.L r) {b : Nat} (hb : (g.rw r).ownBlock = some b) : Wr w b := by
  obtain ⟨e, sz, rows, hr⟩ := hr
  obtain ⟨inner, ho, _⟩ := h.row r _ hr
  exact own_wr ho hb
theorem St.L.R {st : St} {r : Nat} (h : st.L r) : st.R r := by obtain ⟨_, _, _, h⟩ := h; simp [St.R, h]

/-- The streams stand still, the heap does not shrink. -/
structure Calm (w w' : World) : Prop where
  os : w'.os = w.os
  tape : w'.tape = w.tape
  output : w'.output = w.output
  size : w.heap.size ≤ w'.heap.size
theorem Calm.refl (w : World) : Calm w w := ⟨rfl, rfl, rfl, Nat.le_refl _⟩
theorem Calm.trans {a b c : World} (h : Calm a b) (k : Calm b c) : Calm a c := ⟨k.os.trans h.os, k.tape.trans h.tape, k.output.trans h.output, Nat.le_trans h.size k.size⟩

theorem Ext.trans {w1 w2 w3 : World} {g1 g2 g3 : Gh} {O1 R1 O2 R2 O3 R3 : Nat → Prop} (h : Ext w1 w2 g1 g2 O1 R1 O2 R2) (k : Ext w2 w3 g2 g3 O2 R2 O3 R3) : Ext w1 w3 g1 g3 O1 R1 O3 R3 :=
  ⟨fun b hb => (k.same b (h.F b hb)).trans (h.same b hb), fun b hb => k.F b (h.F b hb), fun s hs => ⟨(k.O s (h.O s hs).1).1, (k.O s (h.O s hs).1).2.trans (h.O s hs).2⟩,
    fun r hr => ⟨(k.R r (h.R r hr).1).1, (k.R r (h.R r hr).1).2.trans (h.R r hr).2⟩, ⟨k.d.1.trans h.d.1, k.d.2.1.trans h.d.2.1, k.d.2.2.trans h.d.2.2⟩, k.s.1.trans h.s.1, k.s.2.trans h.s.2⟩

section
variable {E : En} {g : Gh} {st : St} {w w' : World}

/-- A change that turns one block p at most, a variable's or a row's or a new one; the tables are st' and g' behind it. -/
theorem Mem.step {g' : Gh} {st' : St} (h : Mem E g st w) (hc : Calm w w') (p : Nat → Prop) (hb : ∀ b, b < w.heap.size → ¬ p b → w'.heap[b]? = w.heap[b]?)
    (hpF : ∀ b, p b → ¬ g.F b) (hpX : ∀ b, b < E.w0.heap.size → p b → E.X b)
    (hF : ∀ b, g.F b → g'.F b) (hF' : ∀ b, g'.F b → ¬ g.F b → b < w'.heap.size ∧ (b < E.w0.heap.size → E.F0 b ∨ E.X b) ∧ (E.F0 b ∨ Wr w' b))
    (hO : ∀ s, st.O s → st'.O s ∧ g'.ob s = g.ob s) (hR : ∀ r, st.R r → st'.R r ∧ g'.rw r = g.rw r)
    (hob : ∀ s cells, st'.ob s = some cells → (st.ob s = some cells ∧ ¬ p (g.ob s) ∧ ¬ g'.F (g.ob s)) ∨ (∃ arr e, w'.heap[g'.ob s]? = some (.cells arr e (0, 0)) ∧ cells.length ≤ arr.size ∧
      (∀ (j : Nat) (x : A), cells[j]? = some x → x.one = true ∧ ∃ v, arr[j]? = some v ∧ VR w g st.O st.R x v) ∧ ¬ g'.F (g'.ob s) ∧ (E.w0.heap.size ≤ g'.ob s ∨ E.X (g'.ob s))))
    (hobne : ∀ s s', st'.O s → st'.O s' → g'.ob s = g'.ob s' → s = s')
    (hrow : ∀ r x, st'.rw r = some x → (st.rw r = some x ∧ (st.L r → ∀ b, (g.rw r).ownBlock = some b → ¬ p b ∧ ¬ g'.F b)) ∨ RowAt E.w0 w' E.X g'.F (g'.rw r) x)
    (hrowne : ∀ r r' b, st'.L r → st'.L r' → (g'.rw r).ownBlock = some b → (g'.rw r').ownBlock = some b → r = r')
    (hrowob : ∀ r s, st'.L r → st'.O s → (g'.rw r).ownBlock ≠ some (g'.ob s)) (hd : g'.D = g.D ∧ g'.dw = g.dw ∧ g'.sh = g.sh := by exact ⟨rfl, rfl, rfl⟩) (hsS : g'.S = g.S ∧ g'.sw = g.sw := by exact ⟨rfl, rfl⟩) : Mem E g' st' w' ∧ Ext w w' g g' st.O st.R st'.O st'.R := by
  have hS : Same g.F w w' := fun b hf => hb b (h.F b hf).1 (fun hp => hpF b hp hf)
  have hE : Ext w w' g g' st.O st.R st'.O st'.R := ⟨hS, hF, hO, hR, hd, hsS⟩
  refine ⟨⟨fun s cells hs => ?_, hobne, fun r x hr => ?_, hrowne, hrowob, fun b hf => ?_, hc.os.trans h.os, hc.tape.trans h.tape, hc.output.trans h.output, Nat.le_trans h.sizes hc.size,
    fun b h1 h2 => ((h.frame b h1 h2).keep (hb b (Nat.lt_of_lt_of_le h1 h.sizes) (fun hp => h2 (hpX b h1 hp)))).gh hd, fun b hb => by (rw [hsS.1] at hb; rw [hsS.2]; exact ⟨hF b (h.shp b hb).1, (h.shp b hb).2.same (hS b (h.shp b hb).1)⟩), ⟨⟨hd.1.trans h.dep0.1.1, hd.2.1.trans h.dep0.1.2.1, hd.2.2.trans h.dep0.1.2.2⟩, h.dep0.2⟩⟩, hE⟩
  · rcases hob s cells hs with ⟨h1, h2, h3⟩ | ⟨arr, e, hh, hl, hv, hn, hx⟩
    · obtain ⟨arr, e, hh, hl, hv, hn, hx⟩ := h.ob s cells h1
      have ho : g'.ob s = g.ob s := (hO s (by simp [St.O, h1])).2
      rw [ho]
      exact ⟨arr, e, by rw [hb _ (heap_lt hh) h2]; exact hh, hl, fun j x hj => ⟨(hv j x hj).1, (hv j x hj).2.imp fun v hv => ⟨hv.1, hv.2.mono hE⟩⟩, h3, hx⟩
    · exact ⟨arr, e, hh, hl, fun j x hj => ⟨(hv j x hj).1, (hv j x hj).2.imp fun v hv => ⟨hv.1, hv.2.mono hE⟩⟩, hn, hx⟩
  · rcases hrow r x hr with ⟨h1, h2⟩ | h1
    · rw [(hR r (by simp [St.R, h1])).2]
      refine (h.row r x h1).mono hS hF fun ⟨e, sz, rows, hx⟩ b hb' => ?_
      subst hx
      have hL : st.L r := ⟨e, sz, rows, h1⟩
      exact ⟨hb b (h.row_lt hL hb') (h2 hL b hb').1, fun hf => absurd hf (h2 hL b hb').2⟩
    · exact h1
  · by_cases hf' : g.F b
    · exact ⟨Nat.lt_of_lt_of_le (h.F b hf').1 hc.size, (h.F b hf').2.1, (h.F b hf').2.2.imp id fun ⟨arr, e, hh⟩ => ⟨arr, e, by rw [hb b (h.F b hf').1 (fun hp => hpF b hp hf')]; exact hh⟩⟩
    · exact hF' b hf hf'

theorem Mem.frm (h : Mem E g st w) (hs : E.sh = false) : ∀ b, b < E.w0.heap.size → ¬ E.X b → w.heap[b]? = E.w0.heap[b]? := fun b h1 h2 => by
  rcases h.frame b h1 h2 with h3 | ⟨h3, _⟩
  · exact h3
  · rw [h.dep0.1.2.2, hs] at h3; cases h3
theorem Mem.dF (h : Mem E g st w) (hs : g.sh = true) {b : Nat} (hb : g.D b) : ¬ g.F b := fun hf => by
  obtain ⟨_, h2, h3, h4⟩ := h.dep b hb
  rcases (h.F b hf).2.1 h2 with h5 | h5
  · exact (h4 hs).1 h5
  · exact h3 h5
theorem Mem.dN (h : Mem E g st w) {b : Nat} (hb : g.D b) : ¬ (E.w0.heap.size ≤ b ∨ E.X b) := fun hf => by
  obtain ⟨_, h2, h3, h4⟩ := h.dep b hb
  rcases hf with h5 | h5
  · omega
  · exact h3 h5
/-- A change of foreign cells that keeps their kinds. -/
theorem Mem.stepD (h : Mem E g st w) (hs : g.sh = true) (hc : Calm w w') (hb : ∀ b, b < w.heap.size → ¬ g.D b → w'.heap[b]? = w.heap[b]?) (hk : ∀ b, g.D b → KS w w' b) :
    Mem E g st w' ∧ Ext w w' g g st.O st.R st.O st.R := by
  have hS : Same g.F w w' := fun b hf => hb b (h.F b hf).1 (fun hd => h.dF hs hd hf)
  have hE : Ext w w' g g st.O st.R st.O st.R := ⟨hS, fun _ h => h, fun _ h => ⟨h, rfl⟩, fun _ h => ⟨h, rfl⟩, ⟨rfl, rfl, rfl⟩, rfl, rfl⟩
  refine ⟨⟨fun s cells hs' => ?_, h.obne, fun r x hr => ?_, h.rowne, h.rowob, fun b hf => ?_, hc.os.trans h.os, hc.tape.trans h.tape, hc.output.trans h.output, Nat.le_trans h.sizes hc.size, fun b h1 h2 => ?_, fun b hb => ⟨(h.shp b hb).1, (h.shp b hb).2.same (hS b (h.shp b hb).1)⟩, h.dep0⟩, hE⟩
  · obtain ⟨arr, e, hh, hl, hv, hn, hx⟩ := h.ob s cells hs'
    exact ⟨arr, e, by rw [hb _ (heap_lt hh) (fun hd => h.dN hd hx)]; exact hh, hl, fun j x hj => ⟨(hv j x hj).1, (hv j x hj).2.imp fun v hv => ⟨hv.1, hv.2.mono hE⟩⟩, hn, hx⟩
  · refine (h.row r x hr).mono hS (fun _ h => h) fun ⟨e, sz, rows, hx⟩ b hb' => ?_
    subst hx
    have hL : st.L r := ⟨e, sz, rows, hr⟩
    exact ⟨hb b (h.row_lt hL hb') (fun hd => h.dN hd (h.row_nf hL hb').2), fun h => h⟩
  · exact ⟨Nat.lt_of_lt_of_le (h.F b hf).1 hc.size, (h.F b hf).2.1, (h.F b hf).2.2.imp id fun ⟨arr, e, hh⟩ => ⟨arr, e, by rw [hS b hf]; exact hh⟩⟩
  · by_cases hd : g.D b
    · refine .inr ⟨hs, hd, ?_⟩
      have h3 : KS E.w0 w b := by
        rcases h.frame b h1 h2 with h4 | ⟨_, _, h4⟩
        · exact (KS.refl ((h.dep b hd).2.2.2 hs).2).same h4
        · exact h4
      exact h3.trans (hk b hd)
    · exact (h.frame b h1 h2).keep (hb b (Nat.lt_of_lt_of_le h1 h.sizes) hd)

/-- Nothing but draws and new blocks that nobody knows. -/
theorem Mem.grow (h : Mem E g st w) (hc : Calm w w') (hb : ∀ b, b < w.heap.size → w'.heap[b]? = w.heap[b]?) : Mem E g st w' ∧ Ext w w' g g st.O st.R st.O st.R :=
  h.step hc (fun _ => False) (fun b h1 _ => hb b h1) (fun _ h => h.elim) (fun _ _ h => h.elim) (fun _ h => h) (fun _ h1 h2 => absurd h1 h2) (fun _ h => ⟨h, rfl⟩) (fun _ h => ⟨h, rfl⟩)
    (fun s cells hs => .inl ⟨hs, id, (h.ob_nf (by simp [St.O, hs])).1⟩) h.obne (fun r x hr => .inl ⟨hr, fun hL b hb' => ⟨id, (h.row_nf hL hb').1⟩⟩) h.rowne h.rowob

theorem O_upd {d : Nat} {c : List A} {s : Nat} : ({ st with ob := upd st.ob d (some c) } : St).O s ↔ s = d ∨ st.O s := by
  unfold St.O upd
  by_cases h : s = d <;> simp [h]
theorem R_upd {d : Nat} {x : Row} {r : Nat} : ({ st with rw := upd st.rw d (some x) } : St).R r ↔ r = d ∨ st.R r := by
  unfold St.R upd
  by_cases h : r = d <;> simp [h]
theorem L_upd {d : Nat} {x : Row} {r : Nat} : ({ st with rw := upd st.rw d (some x) } : St).L r ↔ (r = d ∧ ∃ e sz rows, x = .live e sz rows) ∨ (r ≠ d ∧ st.L r) := by
  unfold St.L upd
  by_cases h : r = d
  · simp [h]
  · simp [h]
theorem L_ob {d : Nat} {c : List A} {r : Nat} : ({ st with ob := upd st.ob d (some c) } : St).L r ↔ st.L r := Iff.rfl
theorem O_rw {d : Nat} {x : Row} {s : Nat} : ({ st with rw := upd st.rw d (some x) } : St).O s ↔ st.O s := Iff.rfl

theorem alloc_calm (w : World) (o : Obj) : Calm w (w.alloc o) := ⟨rfl, rfl, rfl, by simp⟩

/-- A new variable. -/
theorem Mem.new_ob (h : Mem E g st w) (d : Nat) (hd : st.ob d = none) (cells : List A) (vs : Array Value) (e : TypeId) (hl : cells.length ≤ vs.size)
    (hv : ∀ (j : Nat) (x : A), cells[j]? = some x → x.one = true ∧ ∃ v, vs[j]? = some v ∧ VR w g st.O st.R x v) :
    Mem E { g with ob := upd g.ob d w.heap.size } { st with ob := upd st.ob d (some cells) } (w.alloc (.cells vs e)) ∧
      Ext w (w.alloc (.cells vs e)) g { g with ob := upd g.ob d w.heap.size } st.O st.R ({ st with ob := upd st.ob d (some cells) } : St).O ({ st with ob := upd st.ob d (some cells) } : St).R := by
  have hnd : ¬ st.O d := by simp [St.O, hd]
  have hne : ∀ s, st.O s → s ≠ d := fun s hs he => hnd (he ▸ hs)
  have hsz : ∀ b, g.F b → b ≠ w.heap.size := fun b hf => Nat.ne_of_lt (h.F b hf).1
  refine h.step (alloc_calm w _) (fun _ => False) (fun b h1 _ => heap_alloc_old w _ b h1) (fun _ h => h.elim) (fun _ _ h => h.elim) (fun _ h => h) (fun _ h1 h2 => absurd h1 h2)
    (fun s hs => ⟨O_upd.2 (.inr hs), upd_ne _ _ _ _ (hne s hs)⟩) (fun _ h => ⟨h, rfl⟩) (fun s c hs => ?_) (fun s s' hs hs' he => ?_) (fun r x hr => .inl ⟨hr, fun hL b hb' => ⟨id, (h.row_nf hL hb').1⟩⟩) h.rowne (fun r s hr hs => ?_)
  · by_cases hsd : s = d
    · subst hsd
      simp only [upd_eq, Option.some.injEq] at hs ⊢
      subst hs
      exact .inr ⟨vs, e, heap_alloc_new w _, hl, hv, fun hf => hsz _ hf rfl, .inl h.sizes⟩
    · simp only [upd_ne _ _ _ _ hsd] at hs
      exact .inl ⟨hs, id, (h.ob_nf (by simp [St.O, hs])).1⟩
  · rcases O_upd.1 hs with rfl | h1 <;> rcases O_upd.1 hs' with rfl | h2
    · rfl
    · have := h.ob_lt h2
      simp only [upd_eq, upd_ne _ _ _ _ (hne _ h2)] at he
      omega
    · have := h.ob_lt h1
      simp only [upd_eq, upd_ne _ _ _ _ (hne _ h1)] at he
      omega
    · simp only [upd_ne _ _ _ _ (hne _ h1), upd_ne _ _ _ _ (hne _ h2)] at he
      exact h.obne _ _ h1 h2 he
  · rcases O_upd.1 hs with rfl | h1
    · simp only [upd_eq]
      intro he
      exact absurd (h.row_lt hr he) (Nat.lt_irrefl _)
    · simp only [upd_ne _ _ _ _ (hne _ h1)]
      exact h.rowob r s hr h1

/-- A variable written. -/
theorem Mem.set_ob (h : Mem E g st w) (hc : Calm w w') (s : Nat) (cells cells' : List A) (arr' : Array Value) (e : TypeId) (hs : st.ob s = some cells)
    (hw : w'.heap[g.ob s]? = some (.cells arr' e (0, 0))) (hb : ∀ b, b < w.heap.size → b ≠ g.ob s → w'.heap[b]? = w.heap[b]?) (hl : cells'.length ≤ arr'.size)
    (hv : ∀ (j : Nat) (x : A), cells'[j]? = some x → x.one = true ∧ ∃ v, arr'[j]? = some v ∧ VR w g st.O st.R x v) :
    Mem E g { st with ob := upd st.ob s (some cells') } w' ∧ Ext w w' g g st.O st.R ({ st with ob := upd st.ob s (some cells') } : St).O ({ st with ob := upd st.ob s (some cells') } : St).R := by
  have hO : st.O s := by simp [St.O, hs]
  have hO' : ∀ s', ({ st with ob := upd st.ob s (some cells') } : St).O s' → st.O s' := fun s' h1 => by
    rcases O_upd.1 h1 with rfl | h2
    · exact hO
    · exact h2
  refine h.step hc (fun b => b = g.ob s) (fun b h1 h2 => hb b h1 h2) (fun b hp => hp ▸ (h.ob_nf hO).1) (fun b h1 hp => ?_) (fun _ h => h) (fun _ h1 h2 => absurd h1 h2)
    (fun s' hs' => ⟨O_upd.2 (.inr hs'), rfl⟩) (fun _ h => ⟨h, rfl⟩) (fun s' c hs' => ?_) (fun a b h1 h2 he => h.obne a b (hO' a h1) (hO' b h2) he)
    (fun r x hr => .inl ⟨hr, fun hL b hb' => ⟨fun he => h.rowob r s hL hO (he ▸ hb'), (h.row_nf hL hb').1⟩⟩) h.rowne (fun r s' hr hs' => h.rowob r s' hr (hO' s' hs'))
  · rcases (h.ob_nf hO).2 with h2 | h2
    · subst hp; omega
    · exact hp ▸ h2
  · by_cases hsd : s' = s
    · subst hsd
      simp only [upd_eq, Option.some.injEq] at hs'
      subst hs'
      exact .inr ⟨arr', e, hw, hl, hv, (h.ob_nf hO).1, (h.ob_nf hO).2⟩
    · simp only [upd_ne _ _ _ _ hsd] at hs'
      have h1 : st.O s' := by simp [St.O, hs']
      exact .inl ⟨hs', fun he => hsd (h.obne s' s h1 hO he), (h.ob_nf h1).1⟩

/-- A row that is made (or grown out of one that was used up): its block, and all that p names, is nobody's. -/
theorem Mem.new_row (h : Mem E g st w) (hc : Calm w w') (r : Nat) (hr : st.rw r = none) (hd : Value) (e sz : Nat) (rows : List (List T)) (p : Nat → Prop)
    (hb : ∀ b, b < w.heap.size → ¬ p b → w'.heap[b]? = w.heap[b]?) (hdp : ∀ b, hd.ownBlock = some b → p b) (hpX : ∀ b, b < E.w0.heap.size → p b → E.X b)
    (hfree : ∀ b, p b → ¬ g.F b ∧ (∀ s, st.O s → g.ob s ≠ b) ∧ (∀ r', st.L r' → (g.rw r').ownBlock ≠ some b))
    (hrow : RowAt E.w0 w' E.X g.F hd (.live e sz rows)) :
    Mem E { g with rw := upd g.rw r hd } { st with rw := upd st.rw r (some (.live e sz rows)) } w' ∧
      Ext w w' g { g with rw := upd g.rw r hd } st.O st.R ({ st with rw := upd st.rw r (some (.live e sz rows)) } : St).O ({ st with rw := upd st.rw r (some (.live e sz rows)) } : St).R := by
  have hnr : ¬ st.R r := by simp [St.R, hr]
  have hne : ∀ s, st.R s → s ≠ r := fun s hs he => hnr (he ▸ hs)
  refine h.step hc p hb (fun b hp => (hfree b hp).1) hpX (fun _ h => h) (fun _ h1 h2 => absurd h1 h2)
    (fun _ h => ⟨h, rfl⟩) (fun s hs => ⟨R_upd.2 (.inr hs), upd_ne _ _ _ _ (hne s hs)⟩) (fun s c hs => .inl ⟨hs, fun hp => (hfree _ hp).2.1 s (by simpa [St.O] using (by rw [hs]; rfl)) rfl, (h.ob_nf (by simpa [St.O] using (by rw [hs]; rfl))).1⟩) h.obne (fun s x hs => ?_) (fun a b k ha hb' h1 h2 => ?_) (fun a s ha hs => ?_)
  · by_cases hsd : s = r
    · subst hsd
      simp only [upd_eq, Option.some.injEq] at hs ⊢
      subst hs
      exact .inr hrow
    · simp only [upd_ne _ _ _ _ hsd] at hs
      exact .inl ⟨hs, fun hL b hb' => ⟨fun hp => (hfree b hp).2.2 s hL hb', (h.row_nf hL hb').1⟩⟩
  · rcases L_upd.1 ha with ⟨rfl, _⟩ | ⟨h3, h4⟩ <;> rcases L_upd.1 hb' with ⟨rfl, _⟩ | ⟨h5, h6⟩
    · rfl
    · simp only [upd_eq, upd_ne _ _ _ _ h5] at h1 h2
      exact absurd h2 ((hfree k (hdp k h1)).2.2 b h6)
    · simp only [upd_eq, upd_ne _ _ _ _ h3] at h1 h2
      exact absurd h1 ((hfree k (hdp k h2)).2.2 a h4)
    · simp only [upd_ne _ _ _ _ h3, upd_ne _ _ _ _ h5] at h1 h2
      exact h.rowne a b k h4 h6 h1 h2
  · rcases L_upd.1 ha with ⟨rfl, _⟩ | ⟨h3, h4⟩
    · simp only [upd_eq]
      exact fun he => (hfree _ (hdp _ he)).2.1 s hs rfl
    · simp only [upd_ne _ _ _ _ h3]
      exact h.rowob a s h4 hs

/-- A row's elements written. -/
theorem Mem.set_row (h : Mem E g st w) (hc : Calm w w') (r : Nat) (x0 : Row) (e sz : Nat) (rows : List (List T)) (hr : st.rw r = some x0) (hL : st.L r)
    (hb : ∀ b, b < w.heap.size → (g.rw r).ownBlock ≠ some b → w'.heap[b]? = w.heap[b]?)
    (hrow : RowAt E.w0 w' E.X g.F (g.rw r) (.live e sz rows)) :
    Mem E g { st with rw := upd st.rw r (some (.live e sz rows)) } w' ∧
      Ext w w' g g st.O st.R ({ st with rw := upd st.rw r (some (.live e sz rows)) } : St).O ({ st with rw := upd st.rw r (some (.live e sz rows)) } : St).R := by
  have hL' : ∀ a, ({ st with rw := upd st.rw r (some (.live e sz rows)) } : St).L a → st.L a := fun a ha => by
    rcases L_upd.1 ha with ⟨rfl, _⟩ | ⟨_, h4⟩
    · exact hL
    · exact h4
  refine h.step hc (fun b => (g.rw r).ownBlock = some b) (fun b h1 h2 => hb b h1 h2) (fun b hp => (h.row_nf hL hp).1) (fun b h1 hp => ?_) (fun _ h => h) (fun _ h1 h2 => absurd h1 h2)
    (fun _ h => ⟨h, rfl⟩) (fun s hs => ⟨R_upd.2 (.inr hs), rfl⟩) (fun s c hs => .inl ⟨hs, fun hp => h.rowob r s hL (by simpa [St.O] using (by rw [hs]; rfl)) hp, (h.ob_nf (by simpa [St.O] using (by rw [hs]; rfl))).1⟩) h.obne (fun s x hs => ?_)
    (fun a b k ha hb' h1 h2 => h.rowne a b k (hL' a ha) (hL' b hb') h1 h2) (fun a s ha hs => h.rowob a s (hL' a ha) hs)
  · rcases (h.row_nf hL hp).2 with h2 | h2
    · omega
    · exact h2
  · by_cases hsd : s = r
    · subst hsd
      simp only [upd_eq, Option.some.injEq] at hs
      subst hs
      exact .inr hrow
    · simp only [upd_ne _ _ _ _ hsd] at hs
      exact .inl ⟨hs, fun hL2 b hb' => ⟨fun hp => hsd (h.rowne s r b hL2 hL hb' hp), (h.row_nf hL2 hb').1⟩⟩

/-- A row used up. -/
theorem Mem.gone_row (h : Mem E g st w) (r : Nat) (x0 : Row) (hr : st.rw r = some x0) :
    Mem E g { st with rw := upd st.rw r (some .gone) } w ∧ Ext w w g g st.O st.R ({ st with rw := upd st.rw r (some .gone) } : St).O ({ st with rw := upd st.rw r (some .gone) } : St).R := by
  have hL' : ∀ a, ({ st with rw := upd st.rw r (some .gone) } : St).L a → st.L a := fun a ha => by
    rcases L_upd.1 ha with ⟨rfl, e, sz, rows, hx⟩ | ⟨_, h4⟩
    · cases hx
    · exact h4
  refine h.step (Calm.refl w) (fun _ => False) (fun b h1 h2 => rfl) (fun _ h => h.elim) (fun _ _ h => h.elim) (fun _ h => h) (fun _ h1 h2 => absurd h1 h2)
    (fun _ h => ⟨h, rfl⟩) (fun s hs => ⟨R_upd.2 (.inr hs), rfl⟩) (fun s c hs => .inl ⟨hs, id, (h.ob_nf (by simpa [St.O] using (by rw [hs]; rfl))).1⟩) h.obne (fun s x hs => ?_)
    (fun a b k ha hb' h1 h2 => h.rowne a b k (hL' a ha) (hL' b hb') h1 h2) (fun a s ha hs => h.rowob a s (hL' a ha) hs)
  by_cases hsd : s = r
  · subst hsd
    simp only [upd_eq, Option.some.injEq] at hs
    subst hs
    exact .inr (h.row s x0 hr).slice
  · simp only [upd_ne _ _ _ _ hsd] at hs
    exact .inl ⟨hs, fun hL2 b hb' => ⟨id, (h.row_nf hL2 hb').1⟩⟩

theorem getElem_row {rows : List (List T)} {inner : List Value} {sz i j : Nat} {row : List T} (hl : inner.length = rows.length * sz) (hi : rows[i]? = some row) (hj : j < sz) : i * sz + j < inner.length := by
  have h1 : i < rows.length := (List.getElem?_eq_some_iff.1 hi).1
  have h2 : (i + 1) * sz ≤ rows.length * sz := Nat.mul_le_mul_right _ h1
  rw [Nat.succ_mul] at h2
  omega

/-- A row of one's own, as a tree that is read. -/
theorem RowAt.rd {w0 : World} {X F : Nat → Prop} {v : Value} {e sz : Nat} {rows : List (List T)} (h : RowAt w0 w X F v (.live e sz rows)) (F' : Nat → Prop) (hF : ∀ b, F b → F' b) (hF' : ∀ b, v.ownBlock = some b → F' b) : Rd w F' (.sl sz rows) v := by
  obtain ⟨inner, ho, h1, h2, h3⟩ := h
  rcases ho.2 with ⟨rfl, hn⟩ | ⟨b, cap, cur, rfl, _, hh, hc, hm, hsz, htake⟩
  · have : rows = [] := List.eq_nil_of_length_eq_zero hn
    subst this
    exact .sl0 _ _ _ (by first | assumption | exact fun _ => rfl | (intro h; cases h))
  · refine .sl sz rows b 0 cap (fun i j => inner.getD (i * sz + j) undef) hc (hF' b rfl) h1 (fun i row j x hi hj => ?_) (fun i row j x hi hj => ?_)
    · obtain ⟨u, hu, _⟩ := h2 i row j x hi hj
      have := ho.cells (g := b) rfl (i * sz + j) u hu
      rw [List.getD_eq_getElem?_getD, hu, Nat.zero_add]
      have ha : (⟨b, 0, none⟩ : Addr).add (i * sz + j) = ⟨b, i * sz + j, none⟩ := by unfold Addr.add; split <;> simp_all
      rw [ha] at this
      exact this
    · obtain ⟨u, hu, hr⟩ := h2 i row j x hi hj
      rw [List.getD_eq_getElem?_getD, hu]
      exact hr.mono (fun _ _ => rfl) hF

/-- A row is only read from now on. -/
theorem Mem.frz_row (h : Mem E g st w) (r e sz : Nat) (rows : List (List T)) (hr : st.rw r = some (.live e sz rows)) :
    Mem E { g with F := fun b => g.F b ∨ (g.rw r).ownBlock = some b } { st with rw := upd st.rw r (some (.frz sz rows)) } w ∧
      Ext w w g { g with F := fun b => g.F b ∨ (g.rw r).ownBlock = some b } st.O st.R ({ st with rw := upd st.rw r (some (.frz sz rows)) } : St).O ({ st with rw := upd st.rw r (some (.frz sz rows)) } : St).R := by
  have hL : st.L r := ⟨e, sz, rows, hr⟩
  have hL' : ∀ a, ({ st with rw := upd st.rw r (some (.frz sz rows)) } : St).L a → st.L a ∧ a ≠ r := fun a ha => by
    rcases L_upd.1 ha with ⟨rfl, e, sz, rows, hx⟩ | ⟨h3, h4⟩
    · cases hx
    · exact ⟨h4, h3⟩
  refine h.step (Calm.refl w) (fun _ => False) (fun b h1 h2 => rfl) (fun _ h => h.elim) (fun _ _ h => h.elim) (fun _ h => .inl h) (fun b h1 h2 => ?_)
    (fun _ h => ⟨h, rfl⟩) (fun s hs => ⟨R_upd.2 (.inr hs), rfl⟩) (fun s c hs => .inl ⟨hs, id, ?_⟩) h.obne (fun s x hs => ?_)
    (fun a b k ha hb' h1 h2 => h.rowne a b k (hL' a ha).1 (hL' b hb').1 h1 h2) (fun a s ha hs => h.rowob a s (hL' a ha).1 hs)
  · have h3 := h1.resolve_left h2
    refine ⟨h.row_lt hL h3, fun hlt => ?_, .inr (h.row_wr hL h3)⟩
    rcases (h.row_nf hL h3).2 with h4 | h4
    · omega
    · exact .inr h4
  · have hO : st.O s := by simpa [St.O] using (by rw [hs]; rfl)
    exact fun hf => hf.elim (h.ob_nf hO).1 (fun he => h.rowob r s hL hO he)
  · by_cases hsd : s = r
    · subst hsd
      simp only [upd_eq, Option.some.injEq] at hs
      subst hs
      exact .inr ((h.row s _ hr).rd _ (fun _ h => .inl h) (fun _ h => .inr h))
    · simp only [upd_ne _ _ _ _ hsd] at hs
      exact .inl ⟨hs, fun hL2 b hb' => ⟨id, fun hf => hf.elim (h.row_nf hL2 hb').1 (fun he => hsd (h.rowne s r b hL2 hL hb' he))⟩⟩
end
end Go.Tm
