import Derived.Test.YtohcknmdebahiaaGreatDoorTm20
set_option linter.unusedVariables false
set_option linter.unusedSimpArgs false
set_option maxHeartbeats 1000000
namespace Go.Tm
open Go.RowKit
theorem maOf_congr {P : Program} {ρ : Nat → Root} {ev ev' : Operand → Option A} {o : Oper} (h : ∀ x ∈ o.op.operands.toList, ev x = ev' x) : maOf P ρ ev o = maOf P ρ ev' o := by
  obtain ⟨dst, op, ty, pos, aft, gd⟩ := o
  cases op
  case call c =>
    obtain ⟨cal, args, ts⟩ := c
    cases cal with
    | value f => simp only [maOf]
    | invoke r m => simp only [maOf]
    | builtin b =>
      have h' : ∀ x ∈ args.toList, ev x = ev' x := fun x hx => h x (by simp [Op.operands, Call.operands] at hx ⊢; exact hx)
      cases b <;> simp only [maOf]
      all_goals
        split <;> try rfl
        first | (rename_i hl; rw [hl] at h') | (rename_i hl _; rw [hl] at h')
        try rw [h' _ (List.mem_cons_self ..)]
        try rw [h' _ (List.mem_cons_of_mem _ (List.mem_cons_self ..))]
  case build t parts =>
    have : (parts.toList.map fun (i, x) => (ev x).map fun v => (i, v)) = parts.toList.map fun (i, x) => (ev' x).map fun v => (i, v) :=
      List.map_congr_left fun q hq => by
        have := h q.2 (by simp only [Op.operands, List.mem_map]; exact ⟨q, hq, rfl⟩)
        simp only [this]
    simp only [maOf, this]
  case buildSlice t n parts =>
    have : (parts.toList.map fun (i, x) => (ev x).map fun v => (i, v)) = parts.toList.map fun (i, x) => (ev' x).map fun v => (i, v) :=
      List.map_congr_left fun q hq => by
        have := h q.2 (by simp only [Op.operands, List.mem_map]; exact ⟨q, hq, rfl⟩)
        simp only [this]
    simp only [maOf, this]
  case makeFunc f first caps =>
    cases f <;> simp only [maOf]
    have : caps.toList.map ev = caps.toList.map ev' := List.map_congr_left fun x hx => h x (by simp [Op.operands] at hx ⊢; exact .inr hx)
    rw [this]
  case slice t x lo hi m =>
    cases m <;> simp only [maOf]
    have h1 : ev x = ev' x := h x (by simp [Op.operands])
    have h2 : evO ev lo = evO ev' lo := by
      cases lo with
      | none => rfl
      | some l => simp only [evO]; rw [h l (by simp [Op.operands])]
    have h3 : evO ev hi = evO ev' hi := by
      cases hi with
      | none => rfl
      | some l => simp only [evO]; rw [h l (by simp [Op.operands])]
    rw [h1, h2, h3]
  all_goals
    simp [Op.operands] at h
    simp only [maOf]
    try simp only [h]

/-- One operation, wanted: by itself, or a call by its contract. -/
inductive Exec (P : Program) (p : Nat → Bool) (ρ : Nat → Root) (st : St) (o : Oper) (x : A) (st' : St) : Prop
  | plain (h : (maOf P ρ st.eval o).run st = some (x, st'))
  | call (m : Bool) (d f : Nat) (xf : Operand) (args : Array Operand) (ts : Array TypeId) (caps as : List A) (vs : List V) (st1 : St) (res : V) (outs : List (List C))
      (ho : o.op = .call { callee := .value xf, args, argTypes := ts }) (hd : o.dst = some d) (hf : st.eval xf = some (.clo f caps)) (has : allSome (args.toList.map st.eval) = some as)
      (hp : (passA m p (as ++ caps) MA.ret).run st = some (vs, st1)) (hc : CallOK P f vs res outs) (hr : (recvOuts d (slots (as ++ caps)) outs (V.toA d (tokR d 0) res MA.ret)).run st1 = some (x, st'))
  | callB (d f : Nat) (xf : Operand) (args : Array Operand) (ts : Array TypeId) (caps as : List A) (vs : List V) (res : V)
      (ho : o.op = .call { callee := .value xf, args, argTypes := ts }) (hd : o.dst = some d) (hf : st.eval xf = some (.clo f caps)) (has : allSome (args.toList.map st.eval) = some as)
      (hp : (A.peekVs (as ++ caps) MA.ret).run st = some (vs, st)) (hc : CallOK P f vs res []) (hpl : res.plain) (hr : (V.toA d (tokR d 0) res MA.ret).run st = some (x, st'))
  | callI (m : Bool) (d f : Nat) (xf : Operand) (args : Array Operand) (ts : Array TypeId) (caps as : List A) (vs : List V) (st1 : St) (outs : List (List C)) (s off : Nat)
      (ho : o.op = .call { callee := .value xf, args, argTypes := ts }) (hd : o.dst = some d) (hf : st.eval xf = some (.clo f caps)) (has : allSome (args.toList.map st.eval) = some as)
      (hp : (passA m p (as ++ caps) MA.ret).run st = some (vs, st1)) (hc : IntoOK P f vs off outs) (hhd : (as ++ caps).head? = some (.obj s 0)) (hr : (recvOuts d (slots (as ++ caps)) outs (MA.ret (.obj s off))).run st1 = some (x, st'))
  | callD (d f : Nat) (xf : Operand) (args : Array Operand) (ts : Array TypeId) (caps as : List A) (vs : List V) (res : V)
      (ho : o.op = .call { callee := .value xf, args, argTypes := ts }) (hd : o.dst = some d) (hf : st.eval xf = some (.clo f caps)) (has : allSome (args.toList.map st.eval) = some as)
      (hp : (A.peekVs (as ++ caps) MA.ret).run st = some (vs, st)) (hc : DOK P f vs res) (hr : (V.toA d (tokR d 0) res MA.ret).run st = some (x, st'))
  | callM (f : Nat) (xf : Operand) (args : Array Operand) (ts : Array TypeId) (as : List A) (r : T)
      (ho : o.op = .call { callee := .value xf, args, argTypes := ts }) (hf : st.eval xf = some (.clo f [])) (has : allSome (args.toList.map st.eval) = some as)
      (hk : as.all A.mk = true) (hx : as.any A.hasX = true) (hc : MOK P f as r) (hr : x = .t r) (hst : st' = st)
  | callR (d f r e sz : Nat) (rows rows' : List (List T)) (xf : Operand) (args : Array Operand) (ts : Array TypeId) (as : List A) (vs : List V) (res : T)
      (ho : o.op = .call { callee := .value xf, args, argTypes := ts }) (hd : o.dst = some d) (hf : st.eval xf = some (.clo f [])) (has : allSome (args.toList.map st.eval) = some (.own r :: as))
      (hrw : st.rw r = some (.live e sz rows)) (hp : (A.peekVs as MA.ret).run st = some (vs, st)) (hpl : V.plains vs) (hc : ROK P f e sz rows vs res rows')
      (hr : x = .t res) (hst : st' = { st with rw := upd st.rw r (some (.live e sz rows')) })

section
variable {P : Program} {E : En} [Tb P E] {g : Gh} {st st' : St} {a : Act} {w : World} {p : Nat → Bool} {ρ : Nat → Root} {o : Oper} {x : A}

theorem Exec.sound {n : Nat} (hS : Sim E g n st a w) (h : Exec P p ρ st o x st') : Goes P o a w fun v w' => ∃ g', Aft E g st w x st' v g' w' := by
  cases h with
  | plain h =>
    obtain ⟨u, g', w', h1, h2⟩ := maOf_sound hS h
    exact Goes.of_did ⟨u, w', h1, g', h2⟩
  | call m d f xf args ts caps as vs st1 res outs ho hd hf has hp hc hr => exact call_sound hS ho hf has hp hc hr
  | callB d f xf args ts caps as vs res ho hd hf has hp hc hpl hr => exact callB_sound hS ho hf has hp hc hpl hr
  | callI m d f xf args ts caps as vs st1 outs s off ho hd hf has hp hc hhd hr => exact callI_sound hS ho hf has hp hc hhd hr
  | callD d f xf args ts caps as vs res ho hd hf has hp hc hr => exact callD_sound hS ho hf has hp hc hr
  | callM f xf args ts as r ho hf has hk hx hc hr hst => subst hr hst; exact callM_sound hS ho hf has hk hx hc
  | callR d f r e sz rows rows' xf args ts as vs res ho hd hf has hrw hp hpl hc hr hst => subst hr hst; exact callR_sound hS ho hf has hrw hp hpl hc

/-- A run touches no more than its footprint, and asks no more. -/
structure Loc (D : Dom) (st st' : St) (R : St → St → Prop) : Prop where
  off : Off D st st'
  on : ∀ st2, On D st st2 → ∃ st2', R st2 st2' ∧ Off D st2 st2' ∧ On D st' st2'

theorem ev_congr {st st2 : St} {o : Oper} (h : ∀ t, .tmp t ∈ o.op.operands.toList → st2.tm t = st.tm t) : ∀ y ∈ o.op.operands.toList, st2.eval y = st.eval y := by
  intro y hy
  cases y with
  | tmp t => simp only [St.eval]; rw [h t hy]
  | _ => rfl

theorem args_cls {p : Nat → Bool} {args : List Operand} {as : List A} {D : Dom} (h : ∀ x ∈ args, ∀ a, st.eval x = some a → a.argIn D p) (has : allSome (args.map st.eval) = some as) : ∀ a ∈ as, a.argIn D p := by
  intro a ha
  obtain ⟨hl, hg⟩ := allSome_get has
  obtain ⟨i, hi⟩ := List.getElem?_of_mem ha
  obtain ⟨x, hx, he⟩ := hg i a hi
  exact h x (List.mem_of_getElem? hx) a he

theorem St.ext {s t : St} (h1 : s.tm = t.tm) (h2 : s.ob = t.ob) (h3 : s.rw = t.rw) : s = t := by
  cases s; cases t; cases h1; cases h2; cases h3; rfl
theorem any_argIn {D : Dom} {a : A} (ho : ∀ s, D.oR s ∧ D.oW s) (hr : ∀ r, D.rR r ∧ D.rW r) : a.argIn D p := by
  unfold A.argIn
  split
  · exact ⟨ho _, fun _ => hr⟩
  · exact A.inR_all hr _
theorem cls_arg {D : Dom} {y : Operand} {a : A} (hc : Cls ρ y a) (ho : ∀ s, has (opR ρ y).objs s → D.oR s ∧ D.oW s) (hr : ∀ r, has (argRows p (opR ρ y)) (r / 65536) → D.rR r ∧ D.rW r) (hfit : ∀ s off, a = .obj s off → opR ρ y = .obj s ∨ opR ρ y = .any) :
    (a.argIn D p) ∧ a.inR fun r => D.rR r ∧ D.rW r := by
  have h2 : a.inR fun r => D.rR r ∧ D.rW r := by
    by_cases hob : (opR ρ y).isObj = true
    · obtain ⟨s, off, rfl⟩ := hc.isob hob
      unfold A.inR; trivial
    · refine inR_mono (fun r h => hr r ?_) hc.rows
      revert h hob
      cases opR ρ y <;> simp [argRows, Root.isObj]
  refine ⟨?_, h2⟩
  unfold A.argIn
  split
  · rename_i s
    refine ⟨ho s (hc.objs s 0 rfl), fun hp r => hr r ?_⟩
    rcases hfit s 0 rfl with h | h <;> rw [h] <;> simp [argRows, hp, has, Root.rows]
  · exact h2
theorem fit_obj {y : Operand} {s off : Nat} (hf : opFits ρ st o = true) (hy : y ∈ o.op.operands.toList) (h : st.eval y = some (.obj s off)) : opR ρ y = .obj s ∨ opR ρ y = .any := by
  cases y with
  | tmp t =>
    simp only [St.eval, Option.some.injEq] at h
    have := List.all_eq_true.1 hf _ hy
    simp only [h] at this
    simp only [opR]
    revert this
    cases ρ t <;> simp [Root.fits]
  | const v => exact absurd rfl ((ofValue_inR (Q := fun _ => True) h).2 s off)
  | func f => simp [St.eval] at h
  | global => cases h
theorem fit_clo {y : Operand} {f : FuncId} {caps : List A} (hf : opFits ρ st o = true) (hy : y ∈ o.op.operands.toList) (h : st.eval y = some (.clo f caps)) : caps = [] ∨ opR ρ y = .any := by
  cases y with
  | tmp t =>
    simp only [St.eval, Option.some.injEq] at h
    have := List.all_eq_true.1 hf _ hy
    simp only [h] at this
    simp only [opR]
    revert this
    cases ρ t <;> simp [Root.fits]
  | const v =>
    simp only [St.eval] at h
    unfold A.ofValue at h
    split at h
    · split at h <;> cases h
    · cases h
    · unfold A.ofValue1 at h
      split at h <;> cases h
  | func f' => simp only [St.eval, Option.some.injEq, A.clo.injEq] at h; exact .inl h.2.symm
  | global => cases h
theorem Exec.loc (hf : opFits ρ st o = true) (h : Exec P p ρ st o x st') : Off (fpOf p ρ o).dom st st' ∧
    ∀ st2, (∀ t, .tmp t ∈ o.op.operands.toList → st2.tm t = st.tm t) → On (fpOf p ρ o).dom st st2 → ∃ st2', Exec P p ρ st2 o x st2' ∧ Off (fpOf p ρ o).dom st2 st2' ∧ On (fpOf p ρ o).dom st' st2' := by
  have hcls : ∀ x ∈ o.op.operands.toList, ∀ a, st.eval x = some a → Cls ρ x a := fun x hx a h => eval_cls hf hx h
  -- a call's parts
  have hcall : ∀ {d f : Nat} {xf : Operand} {args : Array Operand} {ts : Array TypeId} {as caps : List A}, o.op = .call { callee := .value xf, args, argTypes := ts } → o.dst = some d → st.eval xf = some (.clo f caps) → allSome (args.toList.map st.eval) = some as →
      (∀ y ∈ xf :: args.toList, y ∈ o.op.operands.toList) ∧ (∀ r, r / 65536 = d → (fpOf p ρ o).dom.rR r ∧ (fpOf p ρ o).dom.rW r) ∧ ((fpOf p ρ o).dom.oR d ∧ (fpOf p ρ o).dom.oW d) ∧
      ∀ a ∈ as ++ caps, a.argIn (fpOf p ρ o).dom p ∧ a.inR fun r => (fpOf p ρ o).dom.rR r ∧ (fpOf p ρ o).dom.rW r := by
    intro d f xf args ts as caps ho hd hxf hass
    have hf' : fpOf p ρ o = ⟨uni (unis (o.op.operands.toList.map fun x => (opR ρ x).objs)) (dstL o.dst), uni (unis (o.op.operands.toList.map fun x => (opR ρ x).objs)) (dstL o.dst),
      uni (unis (o.op.operands.toList.map fun x => argRows p (opR ρ x))) (dstL o.dst), uni (unis (o.op.operands.toList.map fun x => argRows p (opR ρ x))) (dstL o.dst)⟩ := by simp only [fpOf, ho]
    have hops : ∀ y ∈ xf :: args.toList, y ∈ o.op.operands.toList := fun y hy => by
      rw [ho]
      simp only [Op.operands, Call.operands]
      simpa using hy
    have hO : ∀ y ∈ o.op.operands.toList, ∀ s, has (opR ρ y).objs s → (fpOf p ρ o).dom.oR s ∧ (fpOf p ρ o).dom.oW s := fun y hy s hs => by
      rw [hf']
      have := has_uni (a := unis (o.op.operands.toList.map fun x => (opR ρ x).objs)) (b := dstL o.dst) |>.2 (.inl (has_unis (List.mem_map.2 ⟨y, hy, rfl⟩) hs))
      exact ⟨this, this⟩
    have hR : ∀ y ∈ o.op.operands.toList, ∀ r, has (argRows p (opR ρ y)) (r / 65536) → (fpOf p ρ o).dom.rR r ∧ (fpOf p ρ o).dom.rW r := fun y hy r hs => by
      rw [hf']
      have := has_uni (a := unis (o.op.operands.toList.map fun x => argRows p (opR ρ x))) (b := dstL o.dst) |>.2 (.inl (has_unis (List.mem_map.2 ⟨y, hy, rfl⟩) hs))
      exact ⟨this, this⟩
    refine ⟨hops, fun r hr => ?_, ?_, fun a ha => ?_⟩
    · rw [hf']
      have := has_uni (k := r / 65536) (a := unis (o.op.operands.toList.map fun x => argRows p (opR ρ x))) (b := dstL o.dst) |>.2 (.inr (by rw [hd]; simp [dstL, has, hr]))
      exact ⟨this, this⟩
    · rw [hf']
      have := has_uni (k := d) (a := unis (o.op.operands.toList.map fun x => (opR ρ x).objs)) (b := dstL o.dst) |>.2 (.inr (by rw [hd]; simp [dstL, has]))
      exact ⟨this, this⟩
    · rcases List.mem_append.1 ha with ha | ha
      · obtain ⟨hl, hg⟩ := allSome_get hass
        obtain ⟨i, hi⟩ := List.getElem?_of_mem ha
        obtain ⟨y, hy, he⟩ := hg i a hi
        have hym := hops y (List.mem_cons_of_mem _ (List.mem_of_getElem? hy))
        exact cls_arg (hcls y hym a he) (hO y hym) (hR y hym) (fun s off h => fit_obj hf hym (h ▸ he))
      · have hxm := hops xf (List.mem_cons_self ..)
        rcases fit_clo hf hxm hxf with h | h
        · subst h; simp at ha
        · have hOa : ∀ s, (fpOf p ρ o).dom.oR s ∧ (fpOf p ρ o).dom.oW s := fun s => hO xf hxm s (by rw [h]; trivial)
          have hRa : ∀ r, (fpOf p ρ o).dom.rR r ∧ (fpOf p ρ o).dom.rW r := fun r => hR xf hxm r (by rw [h]; trivial)
          exact ⟨any_argIn hOa hRa, A.inR_all hRa a⟩
  cases h with
  | plain h =>
    obtain ⟨h1, h2⟩ := In_run (maOf P ρ st.eval o) (maOf_in hcls) h
    refine ⟨h1, fun st2 ht hon => ?_⟩
    obtain ⟨st2', h3, h4, h5⟩ := h2 st2 hon
    refine ⟨st2', .plain ?_, h4, h5⟩
    rw [maOf_congr (ev_congr ht)]
    exact h3
  | call m d f xf args ts caps as vs st1 res outs ho hd hxf hass hp hc hr =>
    obtain ⟨hops, hdr, hdo, hin⟩ := hcall ho hd hxf hass
    obtain ⟨h1, h2⟩ := In_run (passA m p (as ++ caps) MA.ret) (passA_in (D := (fpOf p ρ o).dom) (fun a ha => (hin a ha).1) (fun _ => trivial)) hp
    obtain ⟨h3, h4⟩ := In_run (recvOuts d (slots (as ++ caps)) outs (V.toA d (tokR d 0) res MA.ret)) (recvOuts_in (D := (fpOf p ρ o).dom) hdr (fun s hs => slots_in (fun a ha => (hin a ha).1) s hs) (vtoA_in hdr hdo fun _ => trivial)) hr
    refine ⟨h1.trans h3, fun st2 ht hon => ?_⟩
    obtain ⟨st3, h5, h6, h7⟩ := h2 st2 hon
    obtain ⟨st4, h8, h9, h10⟩ := h4 st3 h7
    have hev := ev_congr ht
    refine ⟨st4, .call m d f xf args ts caps as vs st3 res outs ho hd ((hev xf (hops xf (List.mem_cons_self ..))).trans hxf) ?_ h5 hc h8, h6.trans h9, h10⟩
    rw [← hass]
    congr 1
    exact List.map_congr_left fun y hy => hev y (hops y (List.mem_cons_of_mem _ hy))
  | callI m d f xf args ts caps as vs st1 outs s off ho hd hxf hass hp hc hhd hr =>
    obtain ⟨hops, hdr, hdo, hin⟩ := hcall ho hd hxf hass
    obtain ⟨h1, h2⟩ := In_run (passA m p (as ++ caps) MA.ret) (passA_in (D := (fpOf p ρ o).dom) (fun a ha => (hin a ha).1) (fun _ => trivial)) hp
    obtain ⟨h3, h4⟩ := In_run (recvOuts d (slots (as ++ caps)) outs (MA.ret (A.obj s off))) (recvOuts_in (D := (fpOf p ρ o).dom) hdr (fun s hs => slots_in (fun a ha => (hin a ha).1) s hs) trivial) hr
    refine ⟨h1.trans h3, fun st2 ht hon => ?_⟩
    obtain ⟨st3, h5, h6, h7⟩ := h2 st2 hon
    obtain ⟨st4, h8, h9, h10⟩ := h4 st3 h7
    have hev := ev_congr ht
    refine ⟨st4, .callI m d f xf args ts caps as vs st3 outs s off ho hd ((hev xf (hops xf (List.mem_cons_self ..))).trans hxf) ?_ h5 hc hhd h8, h6.trans h9, h10⟩
    rw [← hass]
    congr 1
    exact List.map_congr_left fun y hy => hev y (hops y (List.mem_cons_of_mem _ hy))
  | callB d f xf args ts caps as vs res ho hd hxf hass hp hc hpl hr =>
    obtain ⟨hops, hdr, hdo, hin⟩ := hcall ho hd hxf hass
    obtain ⟨h1, h2⟩ := In_run (A.peekVs (as ++ caps) MA.ret) (peekVs_in (D := ⟨(fpOf p ρ o).dom.oR, fun _ => False, (fpOf p ρ o).dom.rR, fun _ => False⟩) (A.inRs_of fun a ha => inR_mono (fun r h => h.1) (hin a ha).2) (fun _ => trivial)) hp
    obtain ⟨h3, h4⟩ := In_run (V.toA d (tokR d 0) res MA.ret) (vtoA_in (D := (fpOf p ρ o).dom) hdr hdo fun _ => trivial) hr
    refine ⟨h3, fun st2 ht hon => ?_⟩
    obtain ⟨st3, h5, h6, h7⟩ := h2 st2 ⟨hon.ob, hon.rw⟩
    have h32 : st3 = st2 := St.ext h6.tm (funext fun s => h6.ob s (fun h => h)) (funext fun s => h6.rw s (fun h => h))
    subst h32
    obtain ⟨st4, h8, h9, h10⟩ := h4 st3 hon
    have hev := ev_congr ht
    refine ⟨st4, .callB d f xf args ts caps as vs res ho hd ((hev xf (hops xf (List.mem_cons_self ..))).trans hxf) ?_ h5 hc hpl h8, h9, h10⟩
    rw [← hass]
    congr 1
    exact List.map_congr_left fun y hy => hev y (hops y (List.mem_cons_of_mem _ hy))
  | callD d f xf args ts caps as vs res ho hd hxf hass hp hc hr =>
    obtain ⟨hops, hdr, hdo, hin⟩ := hcall ho hd hxf hass
    obtain ⟨h1, h2⟩ := In_run (A.peekVs (as ++ caps) MA.ret) (peekVs_in (D := ⟨(fpOf p ρ o).dom.oR, fun _ => False, (fpOf p ρ o).dom.rR, fun _ => False⟩) (A.inRs_of fun a ha => inR_mono (fun r h => h.1) (hin a ha).2) (fun _ => trivial)) hp
    obtain ⟨h3, h4⟩ := In_run (V.toA d (tokR d 0) res MA.ret) (vtoA_in (D := (fpOf p ρ o).dom) hdr hdo fun _ => trivial) hr
    refine ⟨h3, fun st2 ht hon => ?_⟩
    obtain ⟨st3, h5, h6, h7⟩ := h2 st2 ⟨hon.ob, hon.rw⟩
    have h32 : st3 = st2 := St.ext h6.tm (funext fun s => h6.ob s (fun h => h)) (funext fun s => h6.rw s (fun h => h))
    subst h32
    obtain ⟨st4, h8, h9, h10⟩ := h4 st3 hon
    have hev := ev_congr ht
    refine ⟨st4, .callD d f xf args ts caps as vs res ho hd ((hev xf (hops xf (List.mem_cons_self ..))).trans hxf) ?_ h5 hc h8, h9, h10⟩
    rw [← hass]
    congr 1
    exact List.map_congr_left fun y hy => hev y (hops y (List.mem_cons_of_mem _ hy))
  | callM f xf args ts as r ho hxf hass hk hx hc hr hst =>
    subst hr hst
    refine ⟨Off.refl _ _, fun st2 ht hon => ⟨st2, ?_, Off.refl _ _, hon⟩⟩
    have hev := ev_congr ht
    have hops : ∀ y ∈ xf :: args.toList, y ∈ o.op.operands.toList := fun y hy => by
      rw [ho]
      simp only [Op.operands, Call.operands]
      simpa using hy
    refine .callM f xf args ts as r ho ((hev xf (hops xf (List.mem_cons_self ..))).trans hxf) ?_ hk hx hc rfl rfl
    rw [← hass]
    congr 1
    exact List.map_congr_left fun y hy => hev y (hops y (List.mem_cons_of_mem _ hy))
  | callR d f r e sz rows rows' xf args ts as vs res ho hd hxf hass hrw hp hpl hc hr hst =>
    subst hr hst
    obtain ⟨hops, hdr, hdo, hin⟩ := hcall (caps := []) ho hd hxf hass
    have hr0 := (hin (.own r) (by simp)).2
    unfold A.inR at hr0
    obtain ⟨h1, h2⟩ := In_run (A.peekVs as MA.ret) (peekVs_in (D := ⟨(fpOf p ρ o).dom.oR, fun _ => False, (fpOf p ρ o).dom.rR, fun _ => False⟩) (A.inRs_of fun a ha => inR_mono (fun r h => h.1) (hin a (by simp [ha])).2) (fun _ => trivial)) hp
    refine ⟨⟨rfl, fun _ _ => rfl, fun i hi => upd_ne _ _ _ _ (fun he => hi (he ▸ hr0.2))⟩, fun st2 ht hon => ?_⟩
    obtain ⟨st3, h5, h6, h7⟩ := h2 st2 ⟨hon.ob, hon.rw⟩
    have h32 : st3 = st2 := St.ext h6.tm (funext fun s => h6.ob s (fun h => h)) (funext fun s => h6.rw s (fun h => h))
    subst h32
    have hev := ev_congr ht
    refine ⟨_, .callR d f r e sz rows rows' xf args ts as vs res ho hd ((hev xf (hops xf (List.mem_cons_self ..))).trans hxf) ?_ ((hon.rw r hr0.1).trans hrw) h5 hpl hc rfl rfl, ⟨rfl, fun _ _ => rfl, fun i hi => upd_ne _ _ _ _ (fun he => hi (he ▸ hr0.2))⟩, ⟨hon.ob, fun i hi => upd_on (hon.rw i hi)⟩⟩
    rw [← hass]
    congr 1
    exact List.map_congr_left fun y hy => hev y (hops y (List.mem_cons_of_mem _ hy))
end
end Go.Tm
