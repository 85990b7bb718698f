/- Plain laws of the functions. -/
import Derived.Test.YtnbfbkdnjeioiaaGreatCFnTicksP1
set_option linter.unusedVariables false
set_option linter.unusedSimpArgs false
namespace Go.Tm.Pu
open Go.Tm
theorem beats_in (t:Tree) (c:Conf) (k:Int):∀ (n:Nat) (b:Beat),M.BtIn b→M.BtIn (M.beats t c k n b)∧(M.beats t c k n b).fOut.length≤b.fOut.length+n
  | 0,b,h=>⟨h,by simp [M.beats]⟩
  | n+1,b,h=>by
    have h1:=beats_in t c k n _ (bt_step t c k h)
    refine ⟨h1.1,?_⟩
    have h2:=h1.2
    have h3:=tick_out t c k b.fN b.fD
    simp only [List.length_append] at h2
    unfold M.beats
    omega
theorem ticks_l2 {u:Nat} (hu:1099511627776≤u) {t:Tree} (ht:t.fUp.length≤1048576) (c:Conf) (k:Int) {N:Nat} (hN:N≤100):∀ (n i f:Nat) (b:Beat),i+n=N→n < f→M.BtIn b→b.fOut.length≤i →
    impl_Ticks_l2 u f k (N:Int) (i:Int) b.fN.fOn b.fN.fBoss b.fN.fQuiet b.fN.fMan.fGen b.fN.fMan.fSize b.fN.fMan.fLen b.fN.fMan.fSums b.fN.fBld.fHave b.fN.fBld.fBuf b.fN.fPhase b.fN.fKids b.fN.fDrops b.fD.fA b.fD.fB b.fD.fR.fGen b.fD.fR.fSlot b.fD.fR.fLen b.fD.fP b.fOut t c=some (M.beats t c k n b) ∧
    spec_Ticks_l2 u f k (N:Int) (i:Int) b.fN.fOn b.fN.fBoss b.fN.fQuiet b.fN.fMan.fGen b.fN.fMan.fSize b.fN.fMan.fLen b.fN.fMan.fSums b.fN.fBld.fHave b.fN.fBld.fBuf b.fN.fPhase b.fN.fKids b.fN.fDrops b.fD.fA b.fD.fB b.fD.fR.fGen b.fD.fR.fSlot b.fD.fR.fLen b.fD.fP b.fOut t c=some (M.beats t c k n b):=by
  intro n
  induction n with
  | zero =>
    intro i f b hi hf hb ho
    obtain ⟨f,rfl⟩:∃ j,f=j+1:=⟨f - 1,by omega⟩
    unfold impl_Ticks_l2 spec_Ticks_l2
    have:¬ (i:Int) < (N:Int):=by omega
    simp only [this,decide_false,cond_false,spec_Ticks_j3,spec_Ticks_j1,impl_Ticks_j1]
    exact ⟨rfl,rfl⟩
  | succ n ih =>
    intro i f b hi hf hb ho
    obtain ⟨f,rfl⟩:∃ j,f=j+1:=⟨f - 1,by omega⟩
    have h1:(i:Int) < (N:Int):=by omega
    have h2:(N:Int)≤100:=by omega
    have hl:=hb.d.l
    have e1:=impl_Tick_eq hu ht c k hb.n hb.k hb.d.o (by omega)
    have e2:=spec_Tick_eq hu ht c k hb.n hb.k hb.d.o (by omega)
    have hn:=bt_step t c k hb
    have hto:=tick_out t c k b.fN b.fD
    obtain ⟨i1,i2⟩:=ih (i+1) f _ (by omega) (by omega) hn (by simp only [List.length_append]; omega)
    unfold impl_Ticks_l2 spec_Ticks_l2 M.beats
    simp only [h1,h2,decide_true,cond_true,spec_Ticks_j3]
    constructor
    · rw [show impl_Tick u t c k (Node.mk b.fN.fOn b.fN.fBoss b.fN.fQuiet (Manifest.mk b.fN.fMan.fGen b.fN.fMan.fSize b.fN.fMan.fLen b.fN.fMan.fSums) (Build.mk b.fN.fBld.fHave b.fN.fBld.fBuf) b.fN.fPhase b.fN.fKids b.fN.fDrops) (Disk.mk b.fD.fA b.fD.fB (Record.mk b.fD.fR.fGen b.fD.fR.fSlot b.fD.fR.fLen) b.fD.fP)=_ from e1]
      simp only [Option.bind_some]
      rw [chk_dec (by omega),bAdd_succ (show i < 9223372036854775807 by omega)]
      exact i1
    · rw [show spec_Tick u t c k (Node.mk b.fN.fOn b.fN.fBoss b.fN.fQuiet (Manifest.mk b.fN.fMan.fGen b.fN.fMan.fSize b.fN.fMan.fLen b.fN.fMan.fSums) (Build.mk b.fN.fBld.fHave b.fN.fBld.fBuf) b.fN.fPhase b.fN.fKids b.fN.fDrops) (Disk.mk b.fD.fA b.fD.fB (Record.mk b.fD.fR.fGen b.fD.fR.fSlot b.fD.fR.fLen) b.fD.fP)=_ from e2]
      simp only [Option.bind_some,List.nil_append]
      rw [chk_dec (by simp; omega),Option.bind_some,chk_dec (by omega),bAdd_succ (show i < 9223372036854775807 by omega)]
      exact i2
def M.beat0 (n:Node) (d:Disk):Beat:=⟨n,d,[]⟩
theorem ticks_same {u:Nat} (hu:1099511627776≤u) {t:Tree} (ht:t.fUp.length≤1048576) (c:Conf) (k:Int) {n:Node} (hn:M.NodWf n) (hk:n.fKids.length≤1048576) {d:Disk} (hd:M.DiskIn d) (i:Int) :
    ∃ b,impl_Ticks u t c k n d i=some b∧spec_Ticks u t c k n d i=some b∧M.BtIn b∧b.fOut.length≤100:=by
  have h0:M.BtIn (M.beat0 n d):=⟨hn,hk,hd,by simp [M.beat0]⟩
  have hl:=hd.l
  unfold impl_Ticks spec_Ticks
  simp only [impl_copyNode_eq u hn,impl_copyDisk_eq hu hd.o,spec_l15Copy_eq u hn,spec_l9Copy_eq hu hd.o,impl_within_eq,Option.bind_some]
  cases hw:M.within i 0 100 with
  | true =>
    have hw2:=within_t hw
    obtain ⟨N,rfl⟩:∃ N:Nat,i=N:=⟨i.toNat,by omega⟩
    obtain ⟨e1,e2⟩:=ticks_l2 hu ht c k (N:=N) (by omega) N 0 u (M.beat0 n d) (by omega) (by omega) h0 (by simp [M.beat0])
    have hb:=beats_in t c k N _ h0
    exact ⟨_,e1,e2,hb.1,by have:=hb.2; have h2:(M.beat0 n d).fOut.length=0:=rfl; omega⟩
  | false =>
    refine ⟨M.beat0 n d,rfl,?_,h0,by simp [M.beat0]⟩
    obtain ⟨v,rfl⟩:∃ v,u=v+1:=⟨u - 1,by omega⟩
    unfold spec_Ticks_l2
    by_cases h1:(0:Int) < i
    · have h2:¬ i≤100:=by
        intro h
        unfold M.within at hw
        simp at hw
        omega
      simp only [h1,h2,decide_true,decide_false,cond_true,cond_false,spec_Ticks_j3,spec_Ticks_j1]
      rfl
    · simp only [h1,decide_false,cond_false,spec_Ticks_j3,spec_Ticks_j1]
      rfl
def M.stepsLeft (ph:Int):Int:=if M.within ph 1 4 then 5 - ph else 0
theorem impl_TicksToDone_eq (u:Nat) (n:Node):impl_TicksToDone u n=some (if n.fOn then M.stepsLeft n.fPhase else 0):=by
  unfold impl_TicksToDone impl_StepsLeft M.stepsLeft
  rw [impl_within_eq]
  cases n.fOn with
  | false=>rfl
  | true =>
    cases h:M.within n.fPhase 1 4 with
    | false=>rfl
    | true =>
      have:=within_t h
      simp only [Bool.not_true,cond_false,Option.bind_some,if_true]
      rw [bSub_i64 (by omega) (by omega)]
theorem spec_TicksToDone_eq (u:Nat) (n:Node):spec_TicksToDone u n=some (if n.fOn then M.stepsLeft n.fPhase else 0):=by
  unfold spec_TicksToDone spec_StepsLeft M.stepsLeft
  rw [spec_l1In_eq]
  cases n.fOn with
  | false=>rfl
  | true =>
    cases h:M.within n.fPhase 1 4 with
    | false=>rfl
    | true =>
      have:=within_t h
      simp only [Bool.not_true,cond_false,Option.bind_some,if_true]
      rw [bSub_i64 (by omega) (by omega)]
theorem stepsLeft_next (d:Disk) (m:Manifest) (x:Build) (ph:Int):M.stepsLeft (M.nextCommit d m x ph).2≤M.stepsLeft ph:=by
  have k:∀ a b:Int,(a,b)=(1,2)∨(a,b)=(1,1)∨(a,b)=(2,3)∨(a,b)=(3,4)∨(a,b)=(3,3)∨(a,b)=(4,5)→M.stepsLeft b≤M.stepsLeft a:=by
    intro a b h
    rcases h with h | h | h | h | h | h <;> cases h <;> decide
  unfold M.nextCommit
  split
  · rename_i h; subst h; split
    · exact k 1 2 (by simp)
    · exact k 1 1 (by simp)
  · split
    · rename_i h; subst h; exact k 2 3 (by simp)
    · split
      · rename_i h; subst h; split
        · exact k 3 4 (by simp)
        · exact k 3 3 (by simp)
      · split
        · rename_i h; subst h; exact k 4 5 (by simp)
        · exact Int.le_refl _
theorem tick_with_law {u:Nat} (r2:Tree×Conf×Int×Node×Disk) (hk:r2.2.2.1≠0) (ho:r2.2.2.2.1.fOn=true) (b q:Int) (hq:r2.2.2.2.1.fQuiet≥r2.2.1.fSuspect→q=0) :
    laws_FnTicks_j1 u r2 false (M.tickWith r2.2.1 r2.2.2.1 r2.2.2.2.1 r2.2.2.2.2 b q)=some true:=by
  have e0:(r2.2.2.1 == 0)=false:=by simpa using hk
  have hs:=stepsLeft_next r2.2.2.2.2 r2.2.2.2.1.fMan r2.2.2.2.1.fBld r2.2.2.2.1.fPhase
  unfold laws_FnTicks_j1
  simp only [cond_false,ho,Bool.not_true,e0,impl_TicksToDone_eq]
  unfold M.tickWith M.tickNode
  simp only [List.length_singleton,ho,if_true,Option.bind_some,hs,decide_true,cond_true]
  rw [show (((1:Nat):Int) == 1)=true from rfl,cond_true]
  simp only [show ∀ p:Packet,idx [p] 0=some p from fun p=>rfl,Option.bind_some,M.packetOf,beq_self_eq_true,cond_true]
  by_cases hq0:q=0
  · subst hq0
    simp only [beq_self_eq_true,cond_true]
  · have h1:(q == 0)=false:=by simpa using hq0
    have h2:¬ r2.2.2.2.1.fQuiet≥r2.2.1.fSuspect:=fun h=>hq0 (hq h)
    simp only [h1,cond_false,h2,decide_false,beq_self_eq_true,cond_true]
theorem ticks_j1 {u:Nat} (hu:1099511627776≤u) (r2:Tree×Conf×Int×Node×Disk) (hn:M.NodWf r2.2.2.2.1) (hd:M.DOk r2.2.2.2.2):laws_FnTicks_j1 u r2 false (M.tick r2.1 r2.2.1 r2.2.2.1 r2.2.2.2.1 r2.2.2.2.2)=some true:=by
  unfold M.tick
  cases ho:r2.2.2.2.1.fOn with
  | false =>
    unfold laws_FnTicks_j1
    simp only [ho,Bool.not_false,if_true,cond_true,cond_false,laws_sameNode_refl hu hn,Option.bind_some]
    rfl
  | true =>
    by_cases hk:r2.2.2.1=0
    · unfold laws_FnTicks_j1
      simp only [ho,hk,Bool.not_true,Bool.false_eq_true,if_false,if_true,cond_false,beq_self_eq_true,cond_true,laws_sameDisk_refl hu hd,Option.bind_some]
      rfl
    · simp only [Bool.not_true,Bool.false_eq_true,if_false,hk]
      split
      · exact tick_with_law r2 hk ho _ _ fun _=>rfl
      · rename_i h
        exact tick_with_law r2 hk ho _ _ fun h2=>absurd h2 h
theorem FnTicks_gen {u:Nat} (hu:1099511627776≤u) (p0:List Int):laws_FnTicks u p0=some true:=by
  unfold laws_FnTicks laws_big
  simp only [Option.bind_some]
  by_cases hb:(p0.length:Int) > 1048576
  · simp only [hb,decide_true,cond_true]
  · simp only [hb,decide_false,cond_false]
    have hl:p0.length≤1048576:=by omega
    obtain ⟨f1,e1,t1,n1,d1⟩:Ev (spec_DrawTick u p0) fun v=>v.1.fUp.length≤7∧M.DrNode v.2.2.2.1∧M.DiskIn v.2.2.2.2:=by
      unfold spec_DrawTick
      exact Ev_bind (l19Node_ev hu hl) fun r hr=>Ev_some hr.2
    obtain ⟨f2,e2,t2,n2,d2⟩:Ev (spec_DrawTicks u p0) fun v=>v.1.fUp.length≤7∧M.DrNode v.2.2.2.1∧M.DiskIn v.2.2.2.2.1:=by
      unfold spec_DrawTicks
      exact Ev_bind (l19Node_ev hu hl) fun r hr=>Ev_bind (Ev_int u hr.1 (by simp)) fun x hx=>Ev_some hr.2
    obtain ⟨f3,e3,_⟩:Ev (spec_DrawConfOk u p0) fun _=>True:=by
      unfold spec_DrawConfOk
      exact Ev_bind (Ev_new hu hl) fun c hc=>Ev_bind (l19Any_ev u hc) fun r hr=>Ev_some trivial
    obtain ⟨f4,e4,_⟩:Ev (spec_DrawSuspects u p0) fun _=>True:=by
      unfold spec_DrawSuspects spec_l15Node
      refine Ev_bind (p:=fun v=>Cu v.1) (Ev_bind (Ev_new hu hl) fun c hc=>Ev_bind (l15Any_ev hu hc) fun r hr=>Ev_some hr.2.2) fun v hv=>Ev_bind (Ev_below u hv _) fun x hx=>Ev_bind (l19Any_ev u hx.2) fun y hy=>Ev_some trivial
    obtain ⟨f5,e5,_⟩:Ev (spec_DrawTicksToDone u p0) fun _=>True:=by
      unfold spec_DrawTicksToDone spec_l15Node
      refine Ev_bind (p:=fun _=>True) (Ev_bind (Ev_new hu hl) fun c hc=>Ev_bind (l15Any_ev hu hc) fun r hr=>Ev_some trivial) fun v hv=>Ev_some trivial
    obtain ⟨b,b1,b2,b3,b4⟩:=ticks_same hu (show f2.1.fUp.length≤1048576 by omega) f2.2.1 f2.2.2.1 n2.w (by have:=n2.k; omega) d2 f2.2.2.2.2.2
    have hl1:=d1.l
    have hk1:=n1.k
    have hw:=tick_wf f1.1 f1.2.1 f1.2.2.1 n1.w d1.o d1.l d1.b
    have ho:=tick_out f1.1 f1.2.1 f1.2.2.1 f1.2.2.2.1 f1.2.2.2.2
    have hsus:impl_Suspects u f4.1 f4.2=spec_Suspects u f4.1 f4.2:=rfl
    obtain ⟨sv,hsv⟩:∃ v,spec_Suspects u f4.1 f4.2=some v:=by
      unfold spec_Suspects
      cases f4.2.fOn with
      | false=>exact ⟨_,rfl⟩
      | true=>cases decide (f4.2.fBoss≥0) <;> exact ⟨_,rfl⟩
    have hcn:M.confOk (Conf.mk 4 3 2 4)=true:=by decide
    simp only [e1,e2,e3,e4,e5,Option.bind_some,impl_Tick_eq hu (show f1.1.fUp.length≤1048576 by omega) f1.2.1 f1.2.2.1 n1.w (show f1.2.2.2.1.fKids.length≤1048576 by omega) d1.o (show f1.2.2.2.2.fP.length≤1048575 by omega),spec_Tick_eq hu (show f1.1.fUp.length≤1048576 by omega) f1.2.1 f1.2.2.1 n1.w (show f1.2.2.2.1.fKids.length≤1048576 by omega) d1.o (show f1.2.2.2.2.fP.length≤1048575 by omega),
      laws_sameBeat_refl hu hw.a.n hw.d (by omega) (fun p hp=>(hw.a.o p hp).2),Bool.not_true,cond_false,b1,b2,laws_sameBeat_refl hu b3.n b3.d.o (by omega) (fun p hp=>(b3.o p hp).2),impl_ConfOk_eq,spec_ConfOk_eq,beq_self_eq_true,hsus,hsv,impl_TicksToDone_eq,spec_TicksToDone_eq,bne_self_eq_false,impl_ConfNew,spec_ConfNew,hcn]
    exact ticks_j1 hu f1 n1.w d1.o
theorem FnTicks_law (p0:List Int) (h:wSl (wInt .u8) p0∧True):laws_FnTicks 1099511627776 p0=some true:=FnTicks_gen (Nat.le_refl _) p0
end Go.Tm.Pu
