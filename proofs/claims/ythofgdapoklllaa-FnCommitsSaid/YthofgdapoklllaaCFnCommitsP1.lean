/- Plain laws of the functions. -/
import Derived.Test.YthofgdapoklllaaCFnCommitsD
set_option linter.unusedVariables false
set_option linter.unusedSimpArgs false
namespace Go.Tm.Pu
open Go.Tm
def M.within (n a b:Int):Bool:=decide (a≤n) && decide (n≤b)
def M.sizeOk (size n:Int):Bool:=M.within size 2 6 && M.within n 0 (40*size)
def M.blocks (size n:Int):Int:=if M.sizeOk size n then (n+size - 1) / size else 0
def M.spanOf (size n i:Int):Int×Int:=if M.within i 0 (M.blocks size n - 1) then (i*size,min size (n - i*size)) else (0,0)
theorem within_t {n a b:Int} (h:M.within n a b=true):a≤n∧n≤b:=by simpa [M.within] using h
theorem impl_within_eq (u:Nat) (n a b:Int):impl_within u n a b=some (M.within n a b):=by
  unfold impl_within M.within
  by_cases h:a≤n <;> simp [h]
theorem impl_SizeOk_eq (u:Nat) (s n:Int):impl_SizeOk u s n=some (M.sizeOk s n):=by
  unfold impl_SizeOk M.sizeOk
  simp only [impl_within_eq,Option.bind_some]
  cases h:M.within s 2 6 with
  | false=>simp
  | true =>
    have:=within_t h
    simp (disch:=omega) only [cond_true,Bool.true_and,bMul_i64]
theorem sizeOk_t {s n:Int} (h:M.sizeOk s n=true):2≤s∧s≤6∧0≤n∧n≤40*s:=by
  simp [M.sizeOk,M.within] at h; omega
def M.ceilDiv (a b:Int):Int:=if M.within a 0 1000000000000 && M.within b 1 1000000000000 then (a+b - 1) / b else 0
theorem impl_CeilDiv_eq (u:Nat) (a b:Int):impl_CeilDiv u a b=some (M.ceilDiv a b):=by
  unfold impl_CeilDiv M.ceilDiv impl_CeilDiv_j1
  simp only [impl_within_eq,Option.bind_some]
  cases h:M.within a 0 1000000000000 with
  | false=>simp
  | true =>
    cases h2:M.within b 1 1000000000000 with
    | false=>simp
    | true =>
      have:=within_t h
      have:=within_t h2
      have hb:(b == 0)=false:=by simp; omega
      simp (disch:=omega) [chk,bAdd_i64,bSub_i64,bQuo_pos,hb]
theorem blocks_ceil {s n:Int} (h:M.sizeOk s n=true):M.ceilDiv n s=(n+s - 1) / s:=by
  have:=sizeOk_t h
  have h1:M.within n 0 1000000000000=true:=by simp [M.within]; omega
  have h2:M.within s 1 1000000000000=true:=by simp [M.within]; omega
  simp [M.ceilDiv,h1,h2]
theorem impl_Blocks_eq (u:Nat) (s n:Int):impl_Blocks u s n=some (M.blocks s n):=by
  unfold impl_Blocks M.blocks
  simp only [impl_SizeOk_eq,impl_CeilDiv_eq,Option.bind_some]
  cases h:M.sizeOk s n with
  | false=>simp
  | true=>simp [blocks_ceil h]
theorem blocks_range (s n:Int):0≤M.blocks s n∧M.blocks s n≤40:=by
  unfold M.blocks
  split
  · rename_i h
    have h:=sizeOk_t h
    refine ⟨Int.ediv_nonneg (by omega) (by omega),?_⟩
    have:(n+s - 1) / s < 41:=Int.ediv_lt_of_lt_mul (by omega) (by omega)
    omega
  · omega
theorem blocks_ok {s n i:Int} (h:M.within i 0 (M.blocks s n - 1)=true):M.sizeOk s n=true∧0≤i∧i≤39:=by
  have h1:=within_t h
  have:=blocks_range s n
  refine ⟨?_,by omega,by omega⟩
  cases h2:M.sizeOk s n with
  | true=>rfl
  | false=>simp [M.blocks,h2] at h1; omega
theorem mul_range {s i:Int} (h1:2≤s) (h2:s≤6) (h3:0≤i) (h4:i≤39):0≤i*s∧i*s≤234 :=
  ⟨Int.mul_nonneg h3 (by omega),Int.le_trans (Int.mul_le_mul h4 h2 (by omega) (by omega)) (by omega)⟩
theorem impl_SpanOf_eq (u:Nat) (s n i:Int):impl_SpanOf u s n i=some (M.spanOf s n i):=by
  unfold impl_SpanOf M.spanOf
  have hb:=blocks_range s n
  simp (disch:=omega) only [impl_Blocks_eq,impl_within_eq,Option.bind_some,bSub_i64]
  cases h:M.within i 0 (M.blocks s n - 1) with
  | false=>simp
  | true =>
    have ⟨h1,h2,h3⟩:=blocks_ok h
    have h1:=sizeOk_t h1
    have h4:=mul_range (s:=s) (i:=i) (by omega) (by omega) h2 h3
    simp (disch:=omega) [bMul_i64,bSub_i64]
    omega
def M.isBytes (b:List Int):Prop:=∀ x∈b,0≤x∧x≤255
def M.weakS:List Int→Int→Int→Int×Int
  | [],x,y=>(x,y)
  | c :: b,x,y=>M.weakS b ((x+c) % 251) ((y+(x+c) % 251) % 251)
def M.weakOf (b:List Int):Int:=(M.weakS b 0 0).1+251*(M.weakS b 0 0).2
theorem weakS_range (b:List Int):∀ (x y:Int),0≤x→x < 251→0≤y→y < 251→0≤(M.weakS b x y).1∧(M.weakS b x y).1 < 251∧0≤(M.weakS b x y).2∧(M.weakS b x y).2 < 251:=by
  induction b with
  | nil=>intro x y h1 h2 h3 h4; exact ⟨h1,h2,h3,h4⟩
  | cons c b ih =>
    intro x y h1 h2 h3 h4
    exact ih _ _ (by omega) (by omega) (by omega) (by omega)
theorem impl_WeakOf_w (u:Nat):∀ (p b:List Int) (i:Nat) (x y:Int),M.isBytes b→0≤x→x < 251→0≤y→y < 251 →
    wlist (impl_WeakOf_l2_f u p) (impl_WeakOf_l2_b u p) b i (x,y)=impl_WeakOf_j1 u (M.weakS b x y).1 (M.weakS b x y).2:=by
  intro p b
  induction b with
  | nil=>intros; rfl
  | cons c b ih =>
    intro i x y hb h1 h2 h3 h4
    have hc:=hb c (by simp)
    have e1:bRem .i64 (bAdd .i64 x (IntKind.wrap .i64 c)) 251=(x+c) % 251:=by
      rw [wrap_i64 (by omega) (by omega),bAdd_i64 (by omega) (by omega),bRem_pos (by omega)]
    have e2:bRem .i64 (bAdd .i64 y ((x+c) % 251)) 251=(y+(x+c) % 251) % 251:=by
      rw [bAdd_i64 (by omega) (by omega),bRem_pos (by omega)]
    simp only [wlist,impl_WeakOf_l2_b,e1,e2]
    exact ih (i+1) _ _ (fun z hz=>hb z (by simp [hz])) (by omega) (by omega) (by omega) (by omega)
theorem tmod_wrap {n m:Int} (hm:0 < m):(n.tmod m+m).tmod m=n % m:=by
  rcases Int.le_total 0 n with h | h
  · rw [Int.tmod_eq_emod_of_nonneg h,Int.tmod_eq_emod_of_nonneg (by have:=Int.emod_nonneg n (show m≠0 by omega); omega)]
    simp
  · have h1:n.tmod m=-((-n) % m):=by
      rw [show n=-(-n) by omega,Int.neg_tmod,Int.tmod_eq_emod_of_nonneg (by omega)]; simp
    have h2:=Int.emod_nonneg (-n) (show m≠0 by omega)
    have h3:=Int.emod_lt_of_pos (-n) hm
    rw [h1,Int.tmod_eq_emod_of_nonneg (by omega)]
    have:(-((-n) % m)+m) % m=n % m:=by
      have e:-n=m*(-n / m)+(-n) % m:=(Int.mul_ediv_add_emod (-n) m).symm
      have e2:-((-n) % m)+m=n+m*(-n / m+1):=by
        rw [Int.mul_add]; omega
      rw [e2,Int.add_mul_emod_self_left]
    exact this
theorem tmod_range {n m:Int} (hm:0 < m):-m < n.tmod m∧n.tmod m < m:=by
  rcases Int.le_total 0 n with h | h
  · rw [Int.tmod_eq_emod_of_nonneg h]
    have h2:=Int.emod_nonneg n (show m≠0 by omega)
    have h3:=Int.emod_lt_of_pos n hm
    omega
  · have h1:n.tmod m=-((-n) % m):=by
      rw [show n=-(-n) by omega,Int.neg_tmod,Int.tmod_eq_emod_of_nonneg (by omega)]; simp
    have h2:=Int.emod_nonneg (-n) (show m≠0 by omega)
    have h3:=Int.emod_lt_of_pos (-n) hm
    omega
theorem impl_Wrap_eq (u:Nat) (n m:Int):impl_Wrap u n m=some (if M.within m 1 1000000000000 then n % m else 0):=by
  unfold impl_Wrap
  simp only [impl_within_eq,Option.bind_some]
  cases h:M.within m 1 1000000000000 with
  | false=>simp
  | true =>
    have h3:=within_t h
    have hb:(m == 0)=false:=by simp; omega
    have h4:=tmod_range (n:=n) (m:=m) (by omega)
    simp only [hb,Bool.not_true,cond_false,Bool.not_false,chk_true,Option.bind_some]
    have e1:bRem .i64 n m=n.tmod m:=rfl
    rw [e1,bAdd_i64 (by omega) (by omega)]
    show some ((n.tmod m+m).tmod m)=_
    rw [tmod_wrap (by omega)]; simp
theorem impl_weak_eq (u:Nat) (x y:Int):impl_weak u x y=some (x % 251+251*(y % 251)):=by
  unfold impl_weak
  have h:M.within 251 1 1000000000000=true:=by decide
  simp only [impl_Wrap_eq,Option.bind_some,h,if_true]
  simp (disch:=omega) only [bMul_i64,bAdd_i64]
theorem impl_WeakOf_eq {u:Nat} (hu:1099511627776≤u) {b:List Int} (hb:M.isBytes b) (hl:b.length≤1073741824):impl_WeakOf u b=some (M.weakOf b):=by
  unfold impl_WeakOf
  rw [impl_WeakOf_l2_w u b (0,0) u (by omega) (by omega),impl_WeakOf_w u b b 0 0 0 hb (by omega) (by omega) (by omega) (by omega)]
  have:=weakS_range b 0 0 (by omega) (by omega) (by omega) (by omega)
  unfold impl_WeakOf_j1 M.weakOf
  simp only [impl_weak_eq,Option.bind_some]
  congr 1
  omega
def M.digits:Nat→Int→List Int
  | 0,_=>[]
  | n+1,s=>M.digits n (s / 256)++[s % 256]
def M.bytesR:Nat→Int→Option (List Int)
  | 0,s=>if s=1 then some [] else none
  | n+1,s=>if s=1 then some [] else if s < 256 then none else (M.bytesR n (s / 256)).map (·++[s % 256])
def M.bytesOf (s:Int):List Int×Bool:=if s < 1 then ([],false) else match M.bytesR 6 s with | some b=>(b,true) | none=>([],false)
def M.nOf:Nat→Int→Nat
  | 0,_=>0
  | k+1,t=>if 1 < t then M.nOf k (t / 256)+1 else 0
def M.endOf:Nat→Int→Int
  | 0,t=>t
  | k+1,t=>if 1 < t then M.endOf k (t / 256) else t
theorem nOf_le:∀ (k:Nat) (t:Int),M.nOf k t≤k:=by
  intro k
  induction k with
  | zero=>intro t; simp [M.nOf]
  | succ k ih=>intro t; unfold M.nOf; have:=ih (t / 256); split <;> omega
theorem endOf_eq:∀ (k:Nat) (t:Int),M.endOf k t=t / 256 ^ M.nOf k t:=by
  intro k
  induction k with
  | zero=>intro t; simp [M.endOf,M.nOf]
  | succ k ih =>
    intro t
    unfold M.endOf M.nOf
    split
    · rw [ih,Int.ediv_ediv_of_nonneg (by omega),Int.pow_succ,Int.mul_comm]
    · simp
theorem bytesR_eq:∀ (k:Nat) (t:Int),0≤t→M.bytesR k t=if M.endOf k t=1 then some (M.digits (M.nOf k t) t) else none:=by
  intro k
  induction k with
  | zero=>intro t h; simp [M.bytesR,M.endOf,M.nOf,M.digits]
  | succ k ih =>
    intro t h
    unfold M.bytesR M.endOf M.nOf
    by_cases h1:t=1
    · subst h1; simp [M.digits]
    · rw [if_neg h1]
      by_cases h2:1 < t
      · simp only [if_pos h2]
        by_cases h3:t < 256
        · have:t / 256=0:=Int.ediv_eq_zero_of_lt h h3
          rw [if_pos h3,this]
          have:M.endOf k 0=0:=by rw [endOf_eq]; simp
          rw [this]; simp
        · rw [if_neg h3,ih _ (by omega)]
          split <;> simp [M.digits]
      · have:t=0:=by omega
        subst this; simp
theorem digits_bytes:∀ (n:Nat) (s:Int),M.isBytes (M.digits n s):=by
  intro n
  induction n with
  | zero=>intro s x hx; simp [M.digits] at hx
  | succ n ih =>
    intro s x hx
    simp only [M.digits,List.mem_append,List.mem_singleton] at hx
    rcases hx with h | h
    · exact ih _ x h
    · omega
theorem digits_length:∀ (n:Nat) (s:Int),(M.digits n s).length=n:=by
  intro n
  induction n with
  | zero=>intro s; rfl
  | succ n ih=>intro s; simp [M.digits,ih]
theorem bytesOf_some {s:Int} {b:List Int} (h:M.bytesOf s=(b,true)):1≤s∧s / 256 ^ b.length=1∧b=M.digits b.length s∧b.length≤6:=by
  unfold M.bytesOf at h
  split at h
  · cases h
  · rename_i h1
    rw [bytesR_eq 6 s (by omega)] at h
    have he:=endOf_eq 6 s
    have hn:=nOf_le 6 s
    by_cases h2:M.endOf 6 s=1
    · simp only [h2,if_true,Prod.mk.injEq,and_true] at h
      subst h
      rw [digits_length]
      exact ⟨by omega,by rw [← he]; exact h2,rfl,hn⟩
    · simp [h2] at h
theorem bytesOf_bytes (s:Int):M.isBytes (M.bytesOf s).1∧(M.bytesOf s).1.length≤6:=by
  match h:M.bytesOf s with
  | (b,true) =>
    have h:=bytesOf_some h
    exact ⟨by rw [h.2.2.1]; exact digits_bytes _ _,h.2.2.2⟩
  | (b,false) =>
    have:b=[]:=by
      unfold M.bytesOf at h
      split at h
      · simp at h; exact h.symm ▸ rfl
      · split at h <;> simp at h; exact h.symm ▸ rfl
    subst this
    exact ⟨by simp [M.isBytes],by simp⟩
theorem bShr8j (s:Int) (j:Nat) (h:j≤8):bShr .i64 s (8*(j:Int))=s / 256 ^ j:=by
  have:=bShr_k .i64 s (8*j) (by simp [IntKind.bits]; omega)
  rw [show ((8*j:Nat):Int)=8*(j:Int) by simp] at this
  rw [this,show (256:Int)=2 ^ 8 by decide,← Int.pow_mul]
theorem walk_fill {α ρ:Type} {fin:List α→Option ρ} {body:Nat→List α→(List α→Option ρ)→Option ρ} (f:Nat→α) (n:Nat) (hb:∀ i s k,i < n→s.length=n→body i s k=k (s.set i (f i))) :
    ∀ (m i:Nat) (s:List α),i+m=n→s.length=n→s.take i=(List.range i).map f→walk fin body m i s=fin ((List.range n).map f):=by
  intro m
  induction m with
  | zero =>
    intro i s h1 h2 h3
    simp only [walk]
    congr 1
    rw [List.take_of_length_le (by omega)] at h3
    rw [h3,show i=n by omega]
  | succ m ih =>
    intro i s h1 h2 h3
    simp only [walk]
    rw [hb i s _ (by omega) h2]
    refine ih (i+1) _ (by omega) (by simp [h2]) ?_
    rw [List.take_add_one,List.take_set_of_le (Nat.le_refl i),h3,List.getElem?_set_self (by omega),List.range_succ,List.map_append]
    rfl
theorem digits_range:∀ (n:Nat) (s:Int),M.digits n s=(List.range n).map fun i=>s / 256 ^ (n - 1 - i) % 256:=by
  intro n
  induction n with
  | zero=>intro s; rfl
  | succ n ih =>
    intro s
    rw [M.digits,ih,List.range_succ,List.map_append]
    congr 1
    · apply List.map_congr_left
      intro i hi
      have hi:i < n:=by simpa using hi
      rw [Int.ediv_ediv_of_nonneg (by omega),Int.mul_comm,← Int.pow_succ,show (n - 1 - i).succ=n+1 - 1 - i by omega]
    · simp
theorem impl_BytesOf_j1_eq {u:Nat} (hu:1099511627776≤u) (s:Int) (n:Nat) (hn:n≤6):impl_BytesOf_j1 u s (n:Int)=some (if 1≤s∧s / 256 ^ n=1 then (M.digits n s,true) else ([],false)):=by
  unfold impl_BytesOf_j1
  by_cases h1:s < 1
  · have:¬ (1≤s):=by omega
    simp [h1,this,impl_BytesOf_j2]
  · rw [bMul_i64 (by omega) (by omega),bShr8j _ _ (by omega),chk_dec (by omega)]
    by_cases h2:s / 256 ^ n=1
    · have h3:(1:Int)≤s:=by omega
      simp only [h1,decide_false,cond_false,Option.bind_some,h2,h3,true_and,if_true]
      unfold impl_BytesOf_j2
      rw [show ((1:Int) != 1)=false by decide]
      simp only [cond_false,beq_self_eq_true,Bool.or_true,Bool.and_true,Int.toNat_natCast]
      rw [chk_dec (by omega),chk_dec (by omega)]
      simp only [Option.bind_some]
      rw [impl_BytesOf_l4_w u s n _ u (by simp; omega) (by simp; omega)]
      simp only [List.length_replicate,Int.toNat_natCast]
      rw [walk_fill (fun i=>s / 256 ^ (n - 1 - i) % 256) n _ n 0 _ (by omega) (by simp) (by simp),← digits_range]
      · rfl
      · intro i t k hi ht
        unfold impl_BytesOf_l4_b
        have e:bSub .i64 (bSub .i64 (n:Int) 1) (i:Int)=((n - 1 - i:Nat):Int):=by
          rw [bSub_i64 (a:=(n:Int)) (by omega) (by omega),bSub_i64 (by omega) (by omega)]; omega
        rw [e,bMul_i64 (by omega) (by omega),bShr8j _ _ (by omega),chk_dec (by omega),wrap_u8,idx_nat,List.getElem?_eq_getElem (by omega)]
        simp
    · have:(s / 256 ^ n != 1)=true:=by simpa using h2
      simp only [h1,decide_false,cond_false,Option.bind_some,this]
      simp [impl_BytesOf_j2,h2]
theorem impl_BytesOf_l5_eq {u:Nat} (hu:1099511627776≤u) (s:Int):∀ (m n k:Nat),n+m=6→m < k→impl_BytesOf_l5 u k s (n:Int)=impl_BytesOf_j1 u s ((n+M.nOf m (s / 256 ^ n):Nat):Int):=by
  intro m
  induction m with
  | zero =>
    intro n k h1 h2
    obtain ⟨k,rfl⟩:∃ j,k=j+1:=⟨k - 1,by omega⟩
    unfold impl_BytesOf_l5
    have:¬ ((n:Int) < 6):=by omega
    simp [this,impl_BytesOf_j6,M.nOf]
  | succ m ih =>
    intro n k h1 h2
    obtain ⟨k,rfl⟩:∃ j,k=j+1:=⟨k - 1,by omega⟩
    unfold impl_BytesOf_l5
    have h3:(n:Int) < 6:=by omega
    rw [bMul_i64 (by omega) (by omega),bShr8j _ _ (by omega),chk_dec (by omega)]
    simp only [h3,decide_true,cond_true,Option.bind_some,impl_BytesOf_j6,M.nOf]
    by_cases h4:s / 256 ^ n > 1
    · have h4':1 < s / 256 ^ n:=h4
      simp only [h4,decide_true,cond_true,h4',if_true]
      rw [bAdd_succ (by omega),ih (n+1) k (by omega) (by omega),Int.pow_succ,← Int.ediv_ediv_of_nonneg (Int.le_of_lt (Int.pow_pos (by omega)))]
      congr 1
      omega
    · have h4':¬ 1 < s / 256 ^ n:=h4
      simp only [h4,decide_false,cond_false,h4',if_false]
      simp
theorem impl_BytesOf_eq {u:Nat} (hu:1099511627776≤u) (s:Int):impl_BytesOf u s=some (M.bytesOf s):=by
  unfold impl_BytesOf
  have:=impl_BytesOf_l5_eq hu s 6 0 u (by omega) (by omega)
  simp only [Int.natCast_zero,Int.pow_zero,Int.ediv_one,Nat.zero_add] at this
  rw [this,impl_BytesOf_j1_eq hu s _ (nOf_le 6 s)]
  unfold M.bytesOf
  by_cases h:s < 1
  · have:¬ (1≤s):=by omega
    simp [h,this]
  · rw [if_neg h,bytesR_eq 6 s (by omega),endOf_eq]
    have:1≤s:=by omega
    by_cases h2:s / 256 ^ M.nOf 6 s=1 <;> simp [h2,this]
def M.valS:List Int→Int→Int
  | [],s=>s
  | c :: b,s=>M.valS b (256*s+c)
def M.sumOf (b:List Int):Sum:=if 6 < b.length then ⟨0,0⟩ else ⟨M.weakOf b,M.valS b 1⟩
theorem valS_app (a b:List Int):∀ s,M.valS (a++b) s=M.valS b (M.valS a s):=by
  induction a with
  | nil=>intro s; rfl
  | cons c a ih=>intro s; exact ih _
def M.sumFit (size len:Int) (i:Nat) (s:Sum):Bool:=(M.bytesOf s.fS).2 && ((M.bytesOf s.fS).1.length == (M.spanOf size len i).2) && (M.weakOf (M.bytesOf s.fS).1 == s.fW)
def M.sumsFit (size len:Int):List Sum→Nat→Bool
  | [],_=>true
  | s :: l,i=>M.sumFit size len i s && M.sumsFit size len l (i+1)
def M.manOk (m:Manifest):Bool :=
  if m.fGen=0 then m.fSize == 0 && m.fLen == 0 && m.fSums.length == 0
  else M.within m.fGen 1 1000000 && M.sizeOk m.fSize m.fLen && ((m.fSums.length:Int) == M.blocks m.fSize m.fLen) && M.sumsFit m.fSize m.fLen m.fSums 0
theorem ne_beq (a b:Int):(a != b)=!(a == b):=rfl
theorem impl_ManOk_w {u:Nat} (hu:1099511627776≤u) (m:Manifest):∀ (l:List Sum) (i:Nat),wlist (impl_ManOk_l3_f u m) (impl_ManOk_l3_b u m) l i ()=some (M.sumsFit m.fSize m.fLen l i):=by
  intro l
  induction l with
  | nil=>intro i; rfl
  | cons s l ih =>
    intro i
    have hb:=bytesOf_bytes s.fS
    simp only [wlist,impl_ManOk_l3_b,impl_BytesOf_eq hu,impl_SpanOf_eq,Option.bind_some,M.sumsFit,M.sumFit,impl_ManOk_j4,ih,impl_WeakOf_eq hu hb.1 (show _≤_ by omega),ne_beq]
    cases (M.bytesOf s.fS).2 <;> cases (((M.bytesOf s.fS).1.length:Int) == (M.spanOf m.fSize m.fLen ↑i).2) <;> cases (M.weakOf (M.bytesOf s.fS).1 == s.fW) <;> simp
theorem impl_ManOk_eq {u:Nat} (hu:1099511627776≤u) (m:Manifest) (hl:m.fSums.length≤1073741824):impl_ManOk u m=some (M.manOk m):=by
  unfold impl_ManOk M.manOk impl_isZeroMan impl_ManOk_j1
  simp only [impl_within_eq,impl_SizeOk_eq,impl_Blocks_eq,Option.bind_some,ne_beq,impl_ManOk_l3_w u m () u (by omega) (by omega),impl_ManOk_w hu]
  have e0:(((m.fSums.length:Int)) == 0)=(m.fSums.length == 0):=by rw [Bool.eq_iff_iff]; simp
  by_cases h:m.fGen=0
  · have:M.within m.fGen 1 1000000=false:=by rw [h]; rfl
    simp only [h,if_true,beq_self_eq_true,cond_true,e0] at this ⊢
    cases (m.fSize == 0) <;> cases (m.fLen == 0) <;> cases (m.fSums.length == 0) <;> simp [this]
  · have:(m.fGen == 0)=false:=by simpa using h
    simp only [h,if_false,this,cond_false,Option.bind_some]
    cases M.within m.fGen 1 1000000 <;> cases M.sizeOk m.fSize m.fLen <;> cases ((m.fSums.length:Int) == M.blocks m.fSize m.fLen) <;> simp
theorem isBytes_app {a b:List Int} (h:M.isBytes a) (k:M.isBytes b):M.isBytes (a++b):=by
  intro x hx
  rcases List.mem_append.1 hx with g | g
  · exact h x g
  · exact k x g
theorem impl_cloned_eq (u:Nat) {b:List Int} (hl:b.length≤1073741824):impl_cloned u b=some b:=by
  unfold impl_cloned
  rw [chk_dec (by simp; omega),chk_dec (by simp; omega)]
  simp [chk]
theorem manOk_len {m:Manifest} (h:M.manOk m=true):m.fSums.length≤40:=by
  unfold M.manOk at h
  split at h
  · simp only [Bool.and_eq_true,beq_iff_eq] at h
    have:=h.2
    omega
  · have:=blocks_range m.fSize m.fLen
    simp only [Bool.and_eq_true,beq_iff_eq] at h
    omega
theorem toNat_ofInt64 {a:Int} (h1:0≤a) (h2:a < 18446744073709551616):(BitVec.ofInt 64 a).toNat=a.toNat:=by
  rw [BitVec.toNat_ofInt]; omega
theorem bOr_nat {a b:Nat} (h1:a < 9223372036854775808) (h2:b < 9223372036854775808):bOr .i64 (a:Int) (b:Int)=((a ||| b:Nat):Int):=by
  unfold bOr
  have e:(BitVec.ofInt (IntKind.bits .i64) (a:Int) ||| BitVec.ofInt (IntKind.bits .i64) (b:Int)).toNat=a ||| b:=by
    change (BitVec.ofInt 64 (a:Int) ||| BitVec.ofInt 64 (b:Int)).toNat=_
    rw [BitVec.toNat_or,toNat_ofInt64 (by omega) (by omega),toNat_ofInt64 (by omega) (by omega)]; rfl
  rw [e]
  have:a ||| b < 2 ^ 63:=Nat.or_lt_two_pow (by omega) (by omega)
  exact wrap_i64 (by omega) (by omega)
theorem bAnd_nat {a b:Nat} (h1:a < 9223372036854775808) (h2:b < 9223372036854775808):bAnd .i64 (a:Int) (b:Int)=((a &&& b:Nat):Int):=by
  unfold bAnd
  have e:(BitVec.ofInt (IntKind.bits .i64) (a:Int) &&& BitVec.ofInt (IntKind.bits .i64) (b:Int)).toNat=a &&& b:=by
    change (BitVec.ofInt 64 (a:Int) &&& BitVec.ofInt 64 (b:Int)).toNat=_
    rw [BitVec.toNat_and,toNat_ofInt64 (by omega) (by omega),toNat_ofInt64 (by omega) (by omega)]; rfl
  rw [e]
  have:a &&& b≤a:=Nat.and_le_left
  exact wrap_i64 (by omega) (by omega)
theorem bShl1_nat {i:Nat} (h:i≤62):bShl .i64 1 (i:Int)=((2 ^ i:Nat):Int):=by
  unfold bShl
  rw [show min (Int.toNat (i:Int)) (IntKind.bits .i64)=i by simp [IntKind.bits]; omega]
  have h1:(2:Nat) ^ i≤2 ^ 62:=Nat.pow_le_pow_right (by omega) h
  have h2:(1:Int)*2 ^ i=((2 ^ i:Nat):Int):=by simp
  rw [h2]
  generalize (2:Nat) ^ i=p at h1
  exact wrap_i64 (by omega) (by omega)
theorem bShr_nat {a i:Nat} (h:i≤64):bShr .i64 (a:Int) (i:Int)=((a / 2 ^ i:Nat):Int):=by
  rw [bShr_k .i64 _ i h]; simp
def M.setOk (s:Int):Bool:=M.within s 0 1099511627775
def M.isPlace (i:Int):Bool:=M.within i 0 39
def M.inSet (s i:Int):Bool:=M.setOk s && M.isPlace i && s.toNat.testBit i.toNat
theorem impl_SetOk_eq (u:Nat) (s:Int):impl_SetOk u s=some (M.setOk s):=by simp [impl_SetOk,impl_within_eq,M.setOk]
theorem impl_isPlace_eq (u:Nat) (s:Int):impl_isPlace u s=some (M.isPlace s):=by simp [impl_isPlace,impl_within_eq,M.isPlace]
theorem bit_eq {s i:Int} (hs:M.setOk s=true) (hi:M.isPlace i=true):(bAnd .i64 (bShr .i64 s i) 1 == 1)=s.toNat.testBit i.toNat:=by
  have h1:=within_t hs
  have h2:=within_t hi
  obtain ⟨a,rfl⟩:=Int.eq_ofNat_of_zero_le h1.1
  obtain ⟨n,rfl⟩:=Int.eq_ofNat_of_zero_le h2.1
  rw [bShr_nat (by omega)]
  have h3:a / 2 ^ n≤a:=Nat.div_le_self a _
  rw [show (1:Int)=((1:Nat):Int) by rfl,bAnd_nat (by omega) (by omega),Nat.and_one_is_mod]
  simp only [Int.toNat_natCast,Nat.testBit_eq_decide_div_mod_eq]
  generalize a / 2 ^ n=z
  rw [Bool.eq_iff_iff,beq_iff_eq,decide_eq_true_eq]; omega
theorem impl_InSet_eq (u:Nat) (s i:Int):impl_InSet u s i=some (M.inSet s i):=by
  unfold impl_InSet M.inSet
  simp only [impl_SetOk_eq,impl_isPlace_eq,Option.bind_some]
  cases h1:M.setOk s with
  | false=>simp
  | true =>
    cases h2:M.isPlace i with
    | false=>simp
    | true =>
      have h3:=within_t h2
      rw [chk_dec (by omega)]
      simp [bit_eq h1 h2]
theorem bOr_shl8 {s c:Int} (h1:0≤s) (h2:s < 36028797018963968) (h3:0≤c) (h4:c≤255):bOr .i64 (bShl .i64 s 8) c=256*s+c:=by
  obtain ⟨a,rfl⟩:=Int.eq_ofNat_of_zero_le h1
  obtain ⟨b,rfl⟩:=Int.eq_ofNat_of_zero_le h3
  have e:bShl .i64 (a:Int) 8=((a*256:Nat):Int):=by
    unfold bShl
    rw [show min (Int.toNat (8:Int)) (IntKind.bits .i64)=8 by rfl]
    rw [wrap_i64 (by omega) (by omega)]; omega
  rw [e,bOr_nat (by omega) (by omega)]
  have h5:=Nat.shiftLeft_add_eq_or_of_lt (b:=b) (i:=8) (by omega) a
  rw [Nat.shiftLeft_eq,show (2:Nat) ^ 8=256 from rfl] at h5
  rw [← h5]; omega
theorem impl_SumOf_w (u:Nat):∀ (p b:List Int) (i:Nat) (s:Int) (n:Nat),M.isBytes b→0≤s→s < 256 ^ n*2→n+b.length≤6 →
    wlist (impl_SumOf_l2_f u p) (impl_SumOf_l2_b u p) b i s=impl_SumOf_j1 u p (M.valS b s):=by
  intro p b
  induction b with
  | nil=>intros; rfl
  | cons c b ih =>
    intro i s n hb h1 h2 h3
    have hc:=hb c (by simp)
    simp only [List.length_cons] at h3
    have hp:(256:Int) ^ n≤1099511627776:=by
      rcases (show n=0∨n=1∨n=2∨n=3∨n=4∨n=5 by omega) with rfl | rfl | rfl | rfl | rfl | rfl <;> decide
    simp only [wlist,impl_SumOf_l2_b]
    rw [wrap_i64 (by omega) (by omega),bOr_shl8 (by omega) (by omega) (by omega) (by omega)]
    exact ih (i+1) _ (n+1) (fun z hz=>hb z (by simp [hz])) (by omega) (by rw [Int.pow_succ]; omega) (by omega)
theorem impl_SumOf_eq {u:Nat} (hu:1099511627776≤u) {b:List Int} (hb:M.isBytes b) (hl:b.length≤1073741824):impl_SumOf u b=some (M.sumOf b):=by
  unfold impl_SumOf M.sumOf
  by_cases h:6 < b.length
  · have:(b.length:Int) > 6:=by omega
    simp [h,this]
  · have:¬ ((b.length:Int) > 6):=by omega
    simp only [this,decide_false,cond_false,h,if_false]
    rw [impl_SumOf_l2_w u b 1 u (by omega) (by omega),impl_SumOf_w u b b 0 1 0 hb (by omega) (by decide) (by omega)]
    unfold impl_SumOf_j1
    rw [impl_WeakOf_eq hu hb hl]
    rfl
def M.win (b:List Int) (i n:Nat):List Int:=(b.take (i+n)).drop i
theorem isBytes_win {b:List Int} (h:M.isBytes b) (i n:Nat):M.isBytes (M.win b i n):=fun x hx=>h x (List.mem_of_mem_take (List.mem_of_mem_drop hx))
theorem win_length {b:List Int} {i n:Nat} (h:i+n≤b.length):(M.win b i n).length=n:=by
  unfold M.win; rw [List.length_drop,List.length_take]; omega
theorem win_le (b:List Int) (i n:Nat):(M.win b i n).length≤n:=by
  unfold M.win; rw [List.length_drop,List.length_take]; omega
theorem sliceOK_nat {a b n:Nat} (h1:a≤b) (h2:b≤n):chk (sliceOK (a:Int) (b:Int) (n:Int))=some ():=by
  have:sliceOK (a:Int) (b:Int) (n:Int)=true:=by simp [sliceOK]; omega
  rw [this]; rfl
theorem bAdd_nat {a b:Nat} (h:a+b≤9223372036854775807):bAdd .i64 (a:Int) (b:Int)=((a+b:Nat):Int):=by
  rw [bAdd_i64 (by omega) (by omega)]; omega
theorem impl_Slice_eq (u:Nat) {b:List Int} {i n:Nat} (h:i+n≤b.length) (hl:b.length≤1073741824):impl_Slice u b i n=some (M.win b i n,true):=by
  unfold impl_Slice impl_Slice_j1
  have h1:M.within (i:Int) 0 (b.length:Int)=true:=by simp [M.within]; omega
  have h2:M.within (n:Int) 0 ((b.length:Int) - (i:Int))=true:=by simp [M.within]; omega
  simp only [impl_within_eq,h1,Option.bind_some,bSub_i64 (a:=(b.length:Int)) (b:=(i:Int)) (by omega) (by omega),h2,Bool.not_true,cond_false]
  rw [bAdd_nat (by omega),sliceOK_nat (by omega) h]
  simp only [Option.bind_some,Int.toNat_natCast]
  rw [impl_cloned_eq u (by simp; omega)]
  rfl
def M.blockAt (b:List Int) (size i:Int):List Int×Bool :=
  let s:=M.spanOf size b.length i
  if s.2=0 then ([],false) else (M.win b s.1.toNat s.2.toNat,true)
theorem spanOf_range {size n i:Int} (hn:0≤n):0≤(M.spanOf size n i).1∧0≤(M.spanOf size n i).2∧(M.spanOf size n i).2≤6∧(M.spanOf size n i).1+(M.spanOf size n i).2≤n:=by
  unfold M.spanOf
  split
  · rename_i h
    have ⟨h1,h2,h3⟩:=blocks_ok h
    have h4:=sizeOk_t h1
    have h5:=(within_t h).2
    unfold M.blocks at h5
    rw [if_pos h1] at h5
    have h6:=mul_range h4.1 h4.2.1 h2 h3
    have h7:i*size≤n:=by
      have h8:i+1≤(n+size - 1) / size:=by omega
      have h9:(i+1)*size≤n+size - 1:=(Int.le_ediv_iff_mul_le (by omega)).1 h8
      rw [Int.add_mul] at h9
      omega
    dsimp only
    omega
  · dsimp only; omega
theorem blockAt_bytes {b:List Int} (hb:M.isBytes b) (size i:Int):M.isBytes (M.blockAt b size i).1∧(M.blockAt b size i).1.length≤6:=by
  have h:=spanOf_range (size:=size) (n:=b.length) (i:=i) (by omega)
  unfold M.blockAt
  dsimp only
  split
  · exact ⟨by simp [M.isBytes],by simp⟩
  · refine ⟨isBytes_win hb _ _,?_⟩
    have:=win_le b (M.spanOf size b.length i).1.toNat (M.spanOf size b.length i).2.toNat
    dsimp only
    omega
theorem impl_BlockAt_eq (u:Nat) {b:List Int} (hl:b.length≤1073741824) (size i:Int):impl_BlockAt u b size i=some (M.blockAt b size i):=by
  have h:=spanOf_range (size:=size) (n:=b.length) (i:=i) (by omega)
  unfold impl_BlockAt M.blockAt
  simp only [impl_SpanOf_eq,Option.bind_some]
  generalize M.spanOf size b.length i=s at h
  obtain ⟨a,n⟩:=s
  dsimp only at h ⊢
  by_cases h0:n=0
  · simp [h0]
  · have:(n == 0)=false:=by simpa using h0
    obtain ⟨x,rfl⟩:=Int.eq_ofNat_of_zero_le h.1
    obtain ⟨y,rfl⟩:=Int.eq_ofNat_of_zero_le h.2.1
    simp only [this,cond_false,h0,if_false]
    rw [impl_Slice_eq u (by omega) hl]
    rfl
def M.sumsOf (b:List Int) (size:Int):List Sum:=(List.range (M.blocks size b.length).toNat).map fun (i:Nat)=>M.sumOf (M.blockAt b size i).1
theorem walk_append {α ρ:Type} {fin:List α→Option ρ} {body:Nat→List α→(List α→Option ρ)→Option ρ} (g:Nat→α) (n:Nat) (hb:∀ i s k,i < n→s.length=i→body i s k=k (s++[g i])) :
    walk fin body n 0 []=fin ((List.range n).map g):=by
  have:∀ (m i:Nat) (s:List α),i+m=n→s.length=i→walk fin body m i s=fin (s++(List.range' i m).map g):=by
    intro m
    induction m with
    | zero=>intro i s h1 h2; simp [walk]
    | succ m ih =>
      intro i s h1 h2
      simp only [walk]
      rw [hb i s _ (by omega) h2,ih (i+1) _ (by omega) (by simp [h2]),List.range'_succ]
      simp
  rw [this n 0 [] (by omega) rfl,← List.range_eq_range']
  simp
theorem impl_SumsOf_eq {u:Nat} (hu:1099511627776≤u) {b:List Int} (hb:M.isBytes b) (hl:b.length≤1073741824) (size:Int):impl_SumsOf u b size=some (M.sumsOf b size):=by
  unfold impl_SumsOf
  have hr:=blocks_range size b.length
  rw [impl_Blocks_eq]
  simp only [Option.bind_some]
  rw [impl_SumsOf_l2_w u b size _ [] u (by omega) (by omega),walk_append (fun i=>M.sumOf (M.blockAt b size i).1)]
  · rfl
  · intro i s k hi hs
    unfold impl_SumsOf_l2_b
    have h:=blockAt_bytes hb size (i:Int)
    rw [impl_BlockAt_eq u hl]
    simp only [Option.bind_some]
    rw [impl_SumOf_eq hu h.1 (by omega)]
    simp only [Option.bind_some]
    rw [chk_dec (by simp; omega)]
    rfl
def M.manOf (gen:Int) (b:List Int) (size:Int):Manifest:=if M.within gen 1 1000000 && M.sizeOk size b.length then ⟨gen,size,b.length,M.sumsOf b size⟩ else ⟨0,0,0,[]⟩
theorem impl_ManOf_eq {u:Nat} (hu:1099511627776≤u) {b:List Int} (hb:M.isBytes b) (hl:b.length≤1073741824) (gen size:Int):impl_ManOf u gen b size=some (M.manOf gen b size):=by
  unfold impl_ManOf impl_ManOf_j1 M.manOf
  simp only [impl_within_eq,impl_SizeOk_eq,Option.bind_some,impl_SumsOf_eq hu hb hl]
  cases M.within gen 1 1000000 <;> cases M.sizeOk size b.length <;> simp
def M.findFrom (b:List Int) (s:Sum) (n:Nat):Nat→Nat→Int
  | 0,_=>-1
  | c+1,i=>if M.sumOf (M.win b i n)=s then i else M.findFrom b s n c (i+1)
def M.findSum (b:List Int) (s:Sum) (n:Int):Int:=if M.within n 1 6 then M.findFrom b s n.toNat (b.length+1 - n.toNat) 0 else -1
theorem findFrom_range (b:List Int) (s:Sum) (n:Nat):∀ c i,-1≤M.findFrom b s n c i∧M.findFrom b s n c i < i+c:=by
  intro c
  induction c with
  | zero=>intro i; simp [M.findFrom]; omega
  | succ c ih =>
    intro i
    unfold M.findFrom
    have:=ih (i+1)
    split <;> omega
theorem sum_beq (x y:Sum):(([x.fW,x.fS]:List Int) == [y.fW,y.fS])=decide (x=y):=by
  obtain ⟨a,b⟩:=x
  obtain ⟨c,d⟩:=y
  rw [Bool.eq_iff_iff]; simp
theorem impl_FindSum_l2_eq {u:Nat} (hu:1099511627776≤u) {b:List Int} (hb:M.isBytes b) (hl:b.length≤1073741824) (s:Sum) {n:Nat} (h1:1≤n) (h2:n≤6):∀ (c k i:Nat),i+c=b.length+1 - n∨(c=0∧b.length+1 - n≤i)→i≤1073741824→c < k →
    impl_FindSum_l2 u k b n i s=some (M.findFrom b s n c i):=by
  intro c
  induction c with
  | zero =>
    intro k i h3 hi h4
    obtain ⟨k,rfl⟩:∃ i,k=i+1:=⟨k - 1,by omega⟩
    unfold impl_FindSum_l2
    rw [bAdd_nat (by omega)]
    have:¬ (((i+n:Nat):Int)≤(b.length:Int)):=by omega
    simp only [this,decide_false,cond_false,impl_FindSum_j1,M.findFrom]
  | succ c ih =>
    intro k i h3 hi h4
    obtain ⟨k,rfl⟩:∃ i,k=i+1:=⟨k - 1,by omega⟩
    unfold impl_FindSum_l2
    rw [bAdd_nat (by omega)]
    have h5:(((i+n:Nat):Int)≤(b.length:Int)):=by omega
    simp only [h5,decide_true,cond_true,Int.toNat_natCast]
    rw [sliceOK_nat (by omega) (by omega)]
    simp only [Option.bind_some]
    change ((impl_SumOf u (M.win b i n)).bind _)=_
    rw [impl_SumOf_eq hu (isBytes_win hb _ _) (by have:=win_le b i n; omega)]
    simp only [Option.bind_some,sum_beq,M.findFrom]
    by_cases h6:M.sumOf (M.win b i n)=s
    · simp [h6]
    · simp only [h6,decide_false,cond_false,if_false]
      rw [bAdd_succ (by omega)]
      exact ih k (i+1) (by omega) (by omega) (by omega)
theorem impl_FindSum_eq {u:Nat} (hu:1099511627776≤u) {b:List Int} (hb:M.isBytes b) (hl:b.length≤1073741823) (s:Sum) (n:Int):impl_FindSum u b s n=some (M.findSum b s n):=by
  unfold impl_FindSum M.findSum
  rw [impl_within_eq]
  simp only [Option.bind_some]
  cases h:M.within n 1 6 with
  | false=>simp
  | true =>
    have h:=within_t h
    obtain ⟨n,rfl⟩:=Int.eq_ofNat_of_zero_le (show 0≤n by omega)
    simp only [Bool.not_true,cond_false,if_true,Int.toNat_natCast]
    exact impl_FindSum_l2_eq hu hb (by omega) s (by omega) (by omega) (b.length+1 - n) u 0 (by omega) (by omega) (by omega)
def M.placeOf (b:List Int) (m:Manifest) (i:Nat):Int:=match m.fSums[i]? with
  | some s=>M.findSum b s (M.spanOf m.fSize m.fLen i).2
  | none=>-1
theorem impl_PlaceOf_eq {u:Nat} (hu:1099511627776≤u) {b:List Int} (hb:M.isBytes b) (hl:b.length≤1073741823) {m:Manifest} (hm:m.fSums.length≤1073741824) (i:Nat):impl_PlaceOf u b m i=some (M.placeOf b m i):=by
  unfold impl_PlaceOf M.placeOf
  rw [impl_SpanOf_eq]
  simp only [Option.bind_some]
  rw [bSub_i64 (by omega) (by omega),impl_within_eq]
  by_cases h:i < m.fSums.length
  · have h1:M.within (i:Int) 0 ((m.fSums.length:Int) - 1)=true:=by simp [M.within]; omega
    simp only [h1,Option.bind_some,Bool.not_true,cond_false,idx_nat,List.getElem?_eq_getElem h,impl_FindSum_eq hu hb hl]
  · have h1:M.within (i:Int) 0 ((m.fSums.length:Int) - 1)=false:=by simp [M.within]; omega
    simp only [h1,Option.bind_some,Bool.not_false,cond_true,List.getElem?_eq_none (show m.fSums.length≤i by omega)]
theorem cond_some (b:Bool):(bif b then some true else some false)=some b:=by cases b <;> rfl
def M.all2 {α:Type} (f:α→α→Bool):List α→List α→Bool
  | x :: xs,y :: ys=>f x y && M.all2 f xs ys
  | _,_=>true
def M.same {α:Type} (f:α→α→Bool) (xs ys:List α):Bool:=(xs.length == ys.length) && M.all2 f xs ys
theorem wlist_all2 {α:Type} {fin:Unit→Option Bool} {body:α→Nat→Unit→(Unit→Option Bool)→Option Bool} (f:α→α→Bool) {xs ys:List α} (h:xs.length=ys.length) (hb:∀ x y i k,xs[i]?=some x→ys[i]?=some y→body x i () k=bif f x y then k () else some false) :
    wlist fin body xs 0 ()=bif M.all2 f xs ys then fin () else some false:=by
  have:∀ (l m:List α) (i:Nat),l=xs.drop i→m=ys.drop i→wlist fin body l i ()=bif M.all2 f l m then fin () else some false:=by
    intro l
    induction l with
    | nil=>intro m i _ _; simp [wlist,M.all2]
    | cons x l ih =>
      intro m i h1 h2
      have hlt:i < xs.length:=by have:=congrArg List.length h1; simp at this; omega
      cases m with
      | nil=>have:=congrArg List.length h2; simp at this; omega
      | cons y m =>
        have hx:xs[i]?=some x:=by have:=congrArg List.head? h1; simpa [List.head?_drop] using this.symm
        have hy:ys[i]?=some y:=by have:=congrArg List.head? h2; simpa [List.head?_drop] using this.symm
        have hl:l=xs.drop (i+1):=by have:=congrArg List.tail h1; simpa [List.tail_drop] using this
        have hm:m=ys.drop (i+1):=by have:=congrArg List.tail h2; simpa [List.tail_drop] using this
        simp only [wlist,M.all2]
        rw [hb x y i _ hx hy,ih m (i+1) hl hm]
        cases f x y <;> simp
  exact this xs ys 0 (by simp) (by simp)
def M.sameBytes (a b:List Int):Bool:=(strOfNums a).toList == (strOfNums b).toList
theorem impl_SameBytes_eq (u:Nat) (a b:List Int):impl_SameBytes u a b=some (M.sameBytes a b):=rfl
theorem record_beq (x y:Record):(([x.fGen,x.fSlot,x.fLen]:List Int) == [y.fGen,y.fSlot,y.fLen])=decide (x=y):=by
  obtain ⟨a0,a1,a2⟩:=x
  obtain ⟨b0,b1,b2⟩:=y
  rw [Bool.eq_iff_iff]; simp
theorem slices_Equal___impl_Sum_impl_Sum_eq {u:Nat} (hu:1099511627776≤u) {a b:List Sum} (ha:a.length≤1048576):slices_Equal___impl_Sum_impl_Sum u a b=some (M.same (fun x y=>decide (x=y)) a b):=by
  unfold slices_Equal___impl_Sum_impl_Sum M.same
  by_cases h:a.length=b.length
  · have h1:((a.length:Int) != (b.length:Int))=false:=by simp [h]
    simp only [h1,cond_false]
    rw [slices_Equal___impl_Sum_impl_Sum_l2_w u a b () u (by omega) (by omega),wlist_all2 (fun x y=>decide (x=y)) h (fun x y i k hx hy=>by unfold slices_Equal___impl_Sum_impl_Sum_l2_b; rw [idx_nat,hy]; simp only [Option.bind_some,sum_beq]; cases decide (x=y) <;> rfl)]
    simp only [h,beq_self_eq_true,Bool.true_and]
    exact cond_some _
  · have h1:((a.length:Int) != (b.length:Int))=true:=by simp; omega
    have h2:(a.length == b.length)=false:=by simpa using h
    simp [h1,h2]
theorem len_beq (a b:Nat):((a:Int) == (b:Int))=(a == b):=by rw [Bool.eq_iff_iff,beq_iff_eq,beq_iff_eq]; omega
def M.idxFrom {α:Type} (f:α→Bool):List α→Nat→Int
  | [],_=>-1
  | x :: l,i=>if f x then i else M.idxFrom f l (i+1)
theorem wlist_index {α:Type} {fin:Unit→Option Int} {body:α→Nat→Unit→(Unit→Option Int)→Option Int} (f:α→Bool) {xs:List α} (hf:fin ()=some (-1)) (hb:∀ x i k,x∈xs→body x i () k=bif f x then some (i:Int) else k ()) :
    wlist fin body xs 0 ()=some (M.idxFrom f xs 0):=by
  have:∀ (l:List α) (i:Nat),(∀ y∈l,y∈xs)→wlist fin body l i ()=some (M.idxFrom f l i):=by
    intro l
    induction l with
    | nil=>intro i _; exact hf
    | cons x l ih =>
      intro i h
      simp only [wlist,M.idxFrom]
      rw [hb x i _ (h x (by simp)),ih (i+1) (fun y hy=>h y (by simp [hy]))]
      cases f x <;> simp
  exact this xs 0 (fun _ h=>h)
theorem idxFrom_any {α:Type} (f:α→Bool):∀ (l:List α) (i:Nat),decide (M.idxFrom f l i≥0)=l.any f:=by
  intro l
  induction l with
  | nil=>intro i; rfl
  | cons x l ih =>
    intro i
    rw [List.any_cons,← ih (i+1),Bool.eq_iff_iff]
    simp only [decide_eq_true_eq,Bool.or_eq_true]
    by_cases h:f x=true
    · simp [M.idxFrom,h]
    · simp [M.idxFrom,h]
def M.recordOk (r:Record):Bool:=M.within r.fGen 0 1000000 && M.within r.fSlot 0 1 && M.within r.fLen 0 240
theorem impl_isSlot_eq (u:Nat) (n:Int):impl_isSlot u n=some (M.within n 0 1):=by
  unfold impl_isSlot M.within
  by_cases h0:n=0
  · subst h0; rfl
  · by_cases h1:n=1
    · subst h1; rfl
    · have e0:(n == 0)=false:=by simpa using h0
      have e1:(n == 1)=false:=by simpa using h1
      simp only [e0,e1,cond_false]
      by_cases h:0≤n
      · have:¬ n≤1:=by omega
        simp [this]
      · simp [h]
theorem impl_isRecord_eq (u:Nat) (r:Record):impl_isRecord u r=some (M.recordOk r):=by
  unfold impl_isRecord impl_isGen M.recordOk
  simp only [impl_within_eq,impl_isSlot_eq,Option.bind_some]
  cases M.within r.fGen 0 1000000 <;> cases M.within r.fSlot 0 1 <;> rfl
def M.slotOf (d:Disk) (n:Int):List Int:=if n=0 then d.fA else d.fB
theorem impl_slot_eq (u:Nat) (d:Disk) (n:Int):impl_Disk__slot__frz0 u d n=some (M.slotOf d n):=by
  unfold impl_Disk__slot__frz0 M.slotOf
  by_cases h:n=0
  · simp [h]
  · have:(n == 0)=false:=by simpa using h
    simp [h,this]
def M.putOk (p:Put):Bool:=if p.fWhat=2 then (p.fAt == 0) && (p.fB.length == 0) && M.recordOk p.fR else M.within p.fWhat 0 1 && decide (p.fR=⟨0,0,0⟩) && M.within p.fAt 0 (240 - p.fB.length)
theorem record_beq0 (x:Record):(([x.fGen,x.fSlot,x.fLen]:List Int) == [0,0,0])=decide (x=⟨0,0,0⟩):=record_beq x ⟨0,0,0⟩
theorem impl_isPut_eq (u:Nat) {p:Put} (h:p.fB.length≤1048576):impl_isPut u p=some (M.putOk p):=by
  unfold impl_isPut M.putOk
  rw [bSub_i64 (by omega) (by omega)]
  simp only [impl_isRecord_eq,impl_isSlot_eq,impl_within_eq,Option.bind_some,record_beq0]
  have e:((p.fB.length:Int) == 0)=(p.fB.length == 0):=len_beq _ 0
  by_cases h2:p.fWhat=2
  · simp only [h2,beq_self_eq_true,cond_true,if_true,e]
    cases p.fAt == 0 <;> cases p.fB.length == 0 <;> rfl
  · have:(p.fWhat == 2)=false:=by simpa using h2
    simp only [this,cond_false,h2,if_false]
    cases M.within p.fWhat 0 1 <;> cases decide (p.fR=⟨0,0,0⟩) <;> rfl
def M.diskOk (d:Disk):Bool:=decide (d.fA.length≤240) && decide (d.fB.length≤240) && M.recordOk d.fR && decide (d.fR.fLen≤(M.slotOf d d.fR.fSlot).length) && decide (d.fP.length≤200) && d.fP.all M.putOk
structure M.DOk (d:Disk):Prop where
  a:d.fA.length≤1048576
  b:d.fB.length≤1048576
  p:d.fP.length≤1048576
  puts:∀ x∈d.fP,x.fB.length≤1048576
theorem contains_DiskOk {u:Nat} (hu:1099511627776≤u) {l:List Put} (hl:l.length≤1048576) (hp:∀ x∈l,x.fB.length≤1048576):slices_ContainsFunc___impl_Put_impl_Put__impl_DiskOk_1 u l=some (l.any fun x=>!M.putOk x):=by
  unfold slices_ContainsFunc___impl_Put_impl_Put__impl_DiskOk_1 slices_IndexFunc___impl_Put_impl_Put__impl_DiskOk_1
  rw [slices_IndexFunc___impl_Put_impl_Put__impl_DiskOk_1_l2_w u l () u (by omega) (by omega),wlist_index (fun x=>!M.putOk x) rfl (fun x i k hx=>by unfold slices_IndexFunc___impl_Put_impl_Put__impl_DiskOk_1_l2_b impl_DiskOk_1; rw [impl_isPut_eq u (hp x hx)]; rfl)]
  simp only [Option.bind_some,idxFrom_any]
theorem not_any_not {α:Type} (f:α→Bool) (l:List α):(!(l.any fun x=>!f x))=l.all f:=by
  induction l with
  | nil=>rfl
  | cons x l ih=>simp only [List.any_cons,List.all_cons,Bool.not_or,Bool.not_not,ih]
theorem gt_not (a b:Int):decide (a > b)=!decide (a≤b):=by
  by_cases h:a≤b
  · have:¬ a > b:=by omega
    simp [h,this]
  · have:a > b:=by omega
    simp [h,this]
theorem le_nat (a b:Nat):decide ((a:Int)≤(b:Int))=decide (a≤b):=by rw [decide_eq_decide]; omega
theorem impl_DiskOk_eq {u:Nat} (hu:1099511627776≤u) {d:Disk} (hd:M.DOk d):impl_DiskOk u d=some (M.diskOk d):=by
  unfold impl_DiskOk impl_DiskOk_j1 M.diskOk
  simp only [impl_isRecord_eq,impl_slot_eq,contains_DiskOk hu hd.p hd.puts,Option.bind_some,not_any_not,gt_not]
  have e1:decide ((d.fA.length:Int)≤240)=decide (d.fA.length≤240):=le_nat _ 240
  have e2:decide ((d.fB.length:Int)≤240)=decide (d.fB.length≤240):=le_nat _ 240
  have e3:decide ((d.fP.length:Int)≤200)=decide (d.fP.length≤200):=le_nat _ 200
  rw [e1,e2,e3]
  cases decide (d.fA.length≤240) <;> cases decide (d.fB.length≤240) <;> cases M.recordOk d.fR <;> cases decide (d.fR.fLen≤(M.slotOf d d.fR.fSlot).length) <;> cases decide (d.fP.length≤200) <;> rfl
theorem recordOk_slot {r:Record} (h:M.recordOk r=true):M.within r.fSlot 0 1=true∧0≤r.fLen∧r.fLen≤240:=by
  unfold M.recordOk at h
  simp only [Bool.and_eq_true] at h
  exact ⟨h.1.2,(within_t h.2).1,(within_t h.2).2⟩
def M.recover (d:Disk):Int×List Int:=if M.diskOk d then (d.fR.fGen,(M.slotOf d d.fR.fSlot).take d.fR.fLen.toNat) else (0,[])
theorem diskOk_parts {d:Disk} (h:M.diskOk d=true):M.recordOk d.fR=true∧d.fR.fLen≤(M.slotOf d d.fR.fSlot).length∧d.fA.length≤240∧d.fB.length≤240∧d.fP.length≤200:=by
  unfold M.diskOk at h
  simp only [Bool.and_eq_true,decide_eq_true_eq] at h
  obtain ⟨⟨⟨⟨⟨h1,h2⟩,h3⟩,h4⟩,h5⟩,h6⟩:=h
  exact ⟨h3,h4,h1,h2,h5⟩
theorem slotOf_le {d:Disk} (h:M.diskOk d=true) (n:Int):(M.slotOf d n).length≤240:=by
  have:=diskOk_parts h
  unfold M.slotOf; split <;> omega
theorem impl_Recover_eq {u:Nat} (hu:1099511627776≤u) {d:Disk} (hd:M.DOk d):impl_Recover u d=some (M.recover d):=by
  unfold impl_Recover M.recover
  rw [impl_DiskOk_eq hu hd,impl_slot_eq]
  simp only [Option.bind_some]
  cases h:M.diskOk d with
  | false=>rfl
  | true =>
    have h1:=diskOk_parts h
    have h2:=recordOk_slot h1.1
    have h3:=slotOf_le h d.fR.fSlot
    obtain ⟨n,hn⟩:=Int.eq_ofNat_of_zero_le h2.2.1
    simp only [Bool.not_true,cond_false,if_true]
    rw [hn] at h1 ⊢
    rw [show (0:Int)=((0:Nat):Int) by rfl,sliceOK_nat (by omega) (by omega)]
    simp only [Option.bind_some,Int.toNat_natCast,List.drop_zero]
    rw [impl_cloned_eq u (by simp; omega)]; rfl
def M.holds (d:Disk) (gen:Int) (b:List Int):Bool:=((M.recover d).1 == gen) && M.sameBytes (M.recover d).2 b
theorem impl_Holds_eq {u:Nat} (hu:1099511627776≤u) {d:Disk} (hd:M.DOk d) (gen:Int) (b:List Int):impl_Holds u d gen b=some (M.holds d gen b):=by
  unfold impl_Holds M.holds
  rw [impl_Recover_eq hu hd]
  simp only [Option.bind_some,impl_SameBytes_eq]
  cases (M.recover d).1 == gen <;> rfl
theorem walk_app_from {α ρ:Type} {fin:List α→Option ρ} {body:Nat→List α→(List α→Option ρ)→Option ρ} (g:Nat→α) (c:Nat) (hb:∀ i s k,i < c→s.length≤i→body i s k=k (s++[g i])) :
    ∀ (m i:Nat) (s:List α),i+m≤c→s.length≤i→walk fin body m i s=fin (s++(List.range' i m).map g):=by
  intro m
  induction m with
  | zero=>intro i s _ _; simp [walk]
  | succ m ih =>
    intro i s h1 h2
    simp only [walk]
    rw [hb i s _ (by omega) h2,ih (i+1) _ (by omega) (by simp; omega),List.range'_succ]
    simp
theorem grow_walk {ρ:Type} (J:List Int→Option ρ) (n:Int) (hn:n≤1048576) (L:Nat→List Int→Option ρ) (hL:∀ k x,L (k+1) x=bif decide ((x.length:Int) < n) then ((chk (decide ((x.length+([0]:List Int).length)*1≤140737488355328))).bind fun _=>L k (x++[0])) else J x) :
    ∀ (m k:Nat) (x:List Int),(x.length+m=n.toNat∨(m=0∧n≤x.length))→m < k→L k x=J (x++List.replicate m 0):=by
  intro m
  induction m with
  | zero =>
    intro k x h1 h2
    obtain ⟨k,rfl⟩:∃ j,k=j+1:=⟨k - 1,by omega⟩
    have e:¬ ((x.length:Int) < n):=by omega
    rw [hL]; simp [e]
  | succ m ih =>
    intro k x h1 h2
    obtain ⟨k,rfl⟩:∃ j,k=j+1:=⟨k - 1,by omega⟩
    have e:(x.length:Int) < n:=by omega
    rw [hL,chk_dec (by simp; omega)]
    simp only [e,decide_true,cond_true,Option.bind_some]
    rw [ih k _ (by simp; omega) (by omega),List.append_assoc]
    rfl
theorem wlist_push {α ρ:Type} {fin:List α→Option ρ} {body:α→Nat→List α→(List α→Option ρ)→Option ρ} (n:Nat) (p:List α) (hb:∀ x i s k,x∈p→s.length+1≤n→body x i s k=k (s++[x])) :
    ∀ (l:List α) (i:Nat) (s:List α),(∀ x∈l,x∈p)→s.length+l.length≤n→wlist fin body l i s=fin (s++l):=by
  intro l
  induction l with
  | nil=>intro i s _ _; simp [wlist]
  | cons x l ih =>
    intro i s h1 h2
    simp only [List.length_cons] at h2
    simp only [wlist]
    rw [hb x i s _ (h1 x (by simp)) (by omega),ih (i+1) _ (fun y hy=>h1 y (by simp [hy])) (by simp; omega)]
    simp
theorem impl_copyDisk_eq {u:Nat} (hu:1099511627776≤u) {d:Disk} (hd:M.DOk d):impl_copyDisk u d=some d:=by
  have h1:=hd.a
  have h2:=hd.b
  have h3:=hd.p
  unfold impl_copyDisk
  rw [impl_cloned_eq u (show d.fA.length≤1073741824 by omega),impl_cloned_eq u (show d.fB.length≤1073741824 by omega)]
  simp only [Option.bind_some]
  rw [impl_copyDisk_l2_w u d d.fA d.fB _ u (by omega) (by omega),wlist_push 1048576 d.fP _ d.fP 0 [] (fun _ h=>h) (by simp; omega)]
  · rfl
  · intro x i s k hx hs
    have h4:=hd.puts x hx
    unfold impl_copyDisk_l2_b impl_copyPut
    rw [impl_cloned_eq u (show x.fB.length≤1073741824 by omega)]
    simp only [Option.bind_some]
    rw [chk_dec (by simp; omega)]; rfl
def M.lay (b:List Int) (a:Nat) (p:List Int):List Int:=overL (b++List.replicate (a+p.length - b.length) 0) p a
theorem overL_eq {x p:List Int} {a:Nat} (h:a+p.length≤x.length):overL x p a=x.take a++p++x.drop (a+p.length):=by
  unfold overL
  rw [List.take_of_length_le (l:=p) (by omega),Nat.min_eq_left (by omega)]
theorem lay_length (b:List Int) (a:Nat) (p:List Int):(M.lay b a p).length=max b.length (a+p.length):=by
  unfold M.lay
  rw [overL_eq (by simp; omega)]
  simp
  omega
def M.onePut (d:Disk) (p:Put):Disk:=if p.fWhat=2 then ⟨d.fA,d.fB,p.fR,d.fP⟩ else if p.fWhat=0 then ⟨M.lay d.fA p.fAt.toNat p.fB,d.fB,d.fR,d.fP⟩ else ⟨d.fA,M.lay d.fB p.fAt.toNat p.fB,d.fR,d.fP⟩
theorem putOk_cases {p:Put} (h:M.putOk p=true):p.fWhat=2∨((p.fWhat=0∨p.fWhat=1)∧0≤p.fAt∧p.fAt+p.fB.length≤240):=by
  unfold M.putOk at h
  by_cases h2:p.fWhat=2
  · exact .inl h2
  · rw [if_neg h2] at h
    simp only [Bool.and_eq_true] at h
    have h3:=within_t h.1.1
    have h4:=within_t h.2
    exact .inr ⟨by omega,by omega,by omega⟩
theorem onePut_ok {d:Disk} {p:Put} (hd:M.DOk d) (h:M.putOk p=true):M.DOk (M.onePut d p):=by
  have h1:=hd.a
  have h2:=hd.b
  unfold M.onePut
  rcases putOk_cases h with h | ⟨h3,h4,h5⟩
  · rw [if_pos h]; exact ⟨hd.a,hd.b,hd.p,hd.puts⟩
  · split
    · exact ⟨hd.a,hd.b,hd.p,hd.puts⟩
    · split
      · exact ⟨by rw [lay_length]; omega,hd.b,hd.p,hd.puts⟩
      · exact ⟨hd.a,by rw [lay_length]; omega,hd.p,hd.puts⟩
theorem sub_grow (b:List Int) (a n:Nat):chk (subOK (a:Int) (((b++List.replicate (a+n - b.length) (0:Int)).length:Nat):Int))=some ():=by
  have:subOK (a:Int) (((b++List.replicate (a+n - b.length) (0:Int)).length:Nat):Int)=true:=by
    simp only [subOK,Bool.and_eq_true,decide_eq_true_eq,List.length_append,List.length_replicate]; omega
  rw [this]; rfl
theorem impl_perform_eq {u:Nat} (hu:1099511627776≤u) {d:Disk} {p:Put} (hd:M.DOk d) (h:M.putOk p=true):impl_Disk__perform u d p=some (M.onePut d p):=by
  have h1:=hd.a
  have h2:=hd.b
  unfold impl_Disk__perform M.onePut impl_Disk__slot
  rcases putOk_cases h with h | ⟨h3,h4,h5⟩
  · rw [h]; rfl
  · obtain ⟨a,ha⟩:=Int.eq_ofNat_of_zero_le h4
    have e:bAdd .i64 (a:Int) (p.fB.length:Int)=((a+p.fB.length:Nat):Int):=by rw [bAdd_i64 (by omega) (by omega)]; omega
    rcases h3 with h3 | h3
    · rw [h3,ha]
      show impl_Disk__perform_l4 u u p d.fA (0,d)=some ⟨M.lay d.fA a p.fB,d.fB,d.fR,d.fP⟩
      rw [grow_walk (fun x=>impl_Disk__perform_j3 u p x (0,d)) ((a+p.fB.length:Nat):Int) (by omega) (fun k x=>impl_Disk__perform_l4 u k p x (0,d)) (fun k x=>by rw [← e,← ha]; rfl) (a+p.fB.length - d.fA.length) u d.fA (by rw [Int.toNat_natCast]; omega) (by omega)]
      unfold impl_Disk__perform_j3
      rw [ha,sub_grow d.fA a p.fB.length]
      rfl
    · rw [h3,ha]
      show impl_Disk__perform_l2 u u p (1,d) d.fB=some ⟨d.fA,M.lay d.fB a p.fB,d.fR,d.fP⟩
      rw [grow_walk (fun x=>impl_Disk__perform_j1 u p (1,d) x) ((a+p.fB.length:Nat):Int) (by omega) (fun k x=>impl_Disk__perform_l2 u k p (1,d) x) (fun k x=>by rw [← e,← ha]; rfl) (a+p.fB.length - d.fB.length) u d.fB (by rw [Int.toNat_natCast]; omega) (by omega)]
      unfold impl_Disk__perform_j1
      rw [ha,sub_grow d.fB a p.fB.length]
      rfl
def M.falls (s:Int):List Put→Nat→Disk→Disk
  | [],_,d=>⟨d.fA,d.fB,d.fR,[]⟩
  | p :: l,i,d=>M.falls s l (i+1) (if M.inSet s i then M.onePut d p else d)
def M.fall (d:Disk) (s:Int):Disk:=if M.diskOk d then M.falls s d.fP 0 d else d
theorem falls_ok (s:Int):∀ (l:List Put) (i:Nat) (d:Disk),(∀ p∈l,M.putOk p=true)→M.DOk d→M.DOk (M.falls s l i d):=by
  intro l
  induction l with
  | nil=>intro i d _ hd; exact ⟨hd.a,hd.b,by simp [M.falls],by simp [M.falls]⟩
  | cons p l ih =>
    intro i d hp hd
    refine ih (i+1) _ (fun q hq=>hp q (by simp [hq])) ?_
    split
    · exact onePut_ok hd (hp p (by simp))
    · exact hd
theorem diskOk_puts {d:Disk} (h:M.diskOk d=true):∀ p∈d.fP,M.putOk p=true:=by
  unfold M.diskOk at h
  simp only [Bool.and_eq_true] at h
  exact List.all_eq_true.1 h.2
theorem fall_ok {d:Disk} (hd:M.DOk d) (s:Int):M.DOk (M.fall d s):=by
  unfold M.fall
  split
  · rename_i h; exact falls_ok s _ 0 d (diskOk_puts h) hd
  · exact hd
def tup (d:Disk):List Int×List Int×Int×Int×Int×List Put:=(d.fA,d.fB,d.fR.fGen,d.fR.fSlot,d.fR.fLen,d.fP)
theorem impl_Fall_w {u:Nat} (hu:1099511627776≤u) (s:Int) (d0:Disk):∀ (l:List Put) (i:Nat) (d:Disk),(∀ p∈l,M.putOk p=true)→M.DOk d→wlist (impl_Disk__settled__impl_Fall_1_l2_f u s d0) (impl_Disk__settled__impl_Fall_1_l2_b u s d0) l i (tup d)=some (M.falls s l i d):=by
  intro l
  induction l with
  | nil=>intro i d _ _; rfl
  | cons p l ih =>
    intro i d hp hd
    have h0:=hp p (by simp)
    simp only [wlist,impl_Disk__settled__impl_Fall_1_l2_b,impl_Disk__settled__impl_Fall_1_j3,impl_Fall_1,impl_InSet_eq,Option.bind_some,M.falls]
    cases hs:M.inSet s i with
    | true =>
      simp only [cond_true,if_true]
      rw [show (Disk.mk (tup d).1 (tup d).2.1 (Record.mk (tup d).2.2.1 (tup d).2.2.2.1 (tup d).2.2.2.2.1) (tup d).2.2.2.2.2)=d by rfl,impl_perform_eq hu hd h0]
      exact ih (i+1) _ (fun q hq=>hp q (by simp [hq])) (onePut_ok hd h0)
    | false =>
      simp only [cond_false,Bool.false_eq_true,if_false]
      exact ih (i+1) _ (fun q hq=>hp q (by simp [hq])) hd
theorem impl_Fall_eq {u:Nat} (hu:1099511627776≤u) {d:Disk} (hd:M.DOk d) (s:Int):impl_Fall u d s=some (M.fall d s):=by
  have h3:=hd.p
  unfold impl_Fall impl_Disk__settled__impl_Fall_1 M.fall
  rw [impl_copyDisk_eq hu hd,impl_DiskOk_eq hu hd]
  simp only [Option.bind_some]
  cases h:M.diskOk d with
  | false=>rfl
  | true =>
    simp only [Bool.not_true,cond_false,if_true]
    have e:=impl_Fall_w hu s d d.fP 0 d (diskOk_puts h) hd
    rw [← impl_Disk__settled__impl_Fall_1_l2_w u s d (tup d) u (by omega) (by omega)] at e
    rw [show impl_Disk__settled__impl_Fall_1_l2 u u s d 0 d.fA d.fB d.fR.fGen d.fR.fSlot d.fR.fLen d.fP=_ from e]; rfl
def M.allFalls (d:Disk):List Disk:=(List.range' 0 (2 ^ min d.fP.length 6)).map fun (k:Nat)=>M.fall d k
theorem pow6 (n:Nat):2 ^ min n 6≤64:=Nat.pow_le_pow_right (n:=2) (i:=min n 6) (j:=6) (by decide) (Nat.min_le_right _ _)
theorem min6 (n:Nat):(if (n:Int) < 6 then (n:Int) else 6)=((min n 6:Nat):Int):=by split <;> omega
theorem impl_AllFalls_eq {u:Nat} (hu:1099511627776≤u) {d:Disk} (hd:M.DOk d):impl_AllFalls u d=some (M.allFalls d):=by
  have h3:=hd.p
  have h4:=pow6 d.fP.length
  unfold impl_AllFalls
  rw [impl_AllFalls_l2_w u d [] u (by rw [min6,bShl1_nat (by omega)]; omega) (by rw [min6,bShl1_nat (by omega),Int.toNat_natCast]; omega),min6,bShl1_nat (by omega),Int.toNat_natCast,chk_dec (by omega)]
  simp only [Option.bind_some]
  rw [walk_app_from (fun (k:Nat)=>M.fall d k) 1000]
  · rfl
  · intro i s k h1 h2
    unfold impl_AllFalls_l2_b
    rw [impl_Fall_eq hu hd]
    simp only [Option.bind_some]
    rw [chk_dec (by simp; omega)]; rfl
  · omega
  · simp
theorem allFalls_ok {d:Disk} (hd:M.DOk d):∀ x∈M.allFalls d,M.DOk x:=by
  intro x hx
  unfold M.allFalls at hx
  rw [List.mem_map] at hx
  obtain ⟨k,_,rfl⟩:=hx
  exact fall_ok hd k
theorem allFalls_length (d:Disk):(M.allFalls d).length≤64:=by
  unfold M.allFalls; rw [List.length_map,List.length_range']; exact pow6 _
def M.holdsAny (d:Disk) (a:List Int) (g:Int) (b:List Int):Bool:=M.holds d 0 a || M.holds d g b
theorem impl_HoldsAny_eq {u:Nat} (hu:1099511627776≤u) {d:Disk} (hd:M.DOk d) (a:List Int) (g:Int) (b:List Int):impl_HoldsAny u d a g b=some (M.holdsAny d a g b):=by
  unfold impl_HoldsAny M.holdsAny
  rw [impl_Holds_eq hu hd,impl_Holds_eq hu hd]
  cases M.holds d 0 a <;> rfl
def M.safeFall (d:Disk) (a:List Int) (g:Int) (b:List Int):Bool:=M.holdsAny d a g b && (M.allFalls d).all fun x=>M.holdsAny x a g b
theorem impl_SafeFall_eq {u:Nat} (hu:1099511627776≤u) {d:Disk} (hd:M.DOk d) (a:List Int) (g:Int) (b:List Int):impl_SafeFall u d a g b=some (M.safeFall d a g b):=by
  have hl:=allFalls_length d
  unfold impl_SafeFall M.safeFall slices_ContainsFunc___impl_Disk_impl_Disk__impl_SafeFall_1 slices_IndexFunc___impl_Disk_impl_Disk__impl_SafeFall_1
  rw [impl_HoldsAny_eq hu hd,impl_AllFalls_eq hu hd]
  simp only [Option.bind_some]
  rw [slices_IndexFunc___impl_Disk_impl_Disk__impl_SafeFall_1_l2_w u _ a g b () u (by omega) (by omega),wlist_index (fun x=>!M.holdsAny x a g b) rfl (fun x i k hx=>by unfold slices_IndexFunc___impl_Disk_impl_Disk__impl_SafeFall_1_l2_b impl_SafeFall_1; rw [impl_HoldsAny_eq hu (allFalls_ok hd x hx)]; rfl)]
  simp only [Option.bind_some,idxFrom_any,not_any_not]
  cases M.holdsAny d a g b <;> rfl
structure Cu (c:l1Cur):Prop where
  i0:0≤c.fI
  n:c.fI≤(c.fB.length:Int)
  len:c.fB.length≤1048576
def Dr {α:Type} (r:Option (α×l1Cur)) (p:α→Prop):Prop:=∃ v c,r=some (v,c)∧p v∧Cu c
theorem Dr_mono {α:Type} {r:Option (α×l1Cur)} {p q:α→Prop} (h:Dr r p) (hpq:∀ v,p v→q v):Dr r q:=by
  obtain ⟨v,c,e,h1,h2⟩:=h
  exact ⟨v,c,e,hpq v h1,h2⟩
theorem Dr_bind {α β:Type} {r:Option (α×l1Cur)} {p:α→Prop} {f:α×l1Cur→Option (β×l1Cur)} {q:β→Prop} (h:Dr r p) (hf:∀ v c,p v→Cu c→Dr (f (v,c)) q):Dr (r.bind f) q:=by
  obtain ⟨v,c,e,h1,h2⟩:=h
  rw [e]
  exact hf v c h1 h2
theorem Dr_some {α:Type} {v:α} {c:l1Cur} {p:α→Prop} (h:p v) (hc:Cu c):Dr (Option.some (v,c)) p:=⟨v,c,rfl,h,hc⟩
theorem and255 (a:Int):0≤bAnd .i64 a 255∧bAnd .i64 a 255≤255:=by
  unfold bAnd
  have h:(BitVec.ofInt 64 a &&& BitVec.ofInt 64 255).toNat≤255:=by
    rw [BitVec.toNat_and]
    exact Nat.and_le_right
  have e:IntKind.wrap .i64 (((BitVec.ofInt 64 a &&& BitVec.ofInt 64 255).toNat:Nat):Int)=(((BitVec.ofInt 64 a &&& BitVec.ofInt 64 255).toNat:Nat):Int):=wrap_i64 (by omega) (by omega)
  show 0≤IntKind.wrap .i64 (((BitVec.ofInt 64 a &&& BitVec.ofInt 64 255).toNat:Nat):Int)∧IntKind.wrap .i64 (((BitVec.ofInt 64 a &&& BitVec.ofInt 64 255).toNat:Nat):Int)≤255
  rw [e]
  omega
theorem l1New_eq {u:Nat} (hu:1099511627776≤u) {code:List Int} (h:code.length≤1048576):∃ c,spec_l1New u code=some c∧Cu c:=by
  have key:∀ (m k i:Nat) (x:Int),i+m=code.length→m < k→∃ c,spec_l1New_l2 u k code x (i:Int)=some c∧Cu c:=by
    intro m
    induction m with
    | zero =>
      intro k i x hi hk
      obtain ⟨k,rfl⟩:∃ j,k=j+1:=⟨k - 1,by omega⟩
      unfold spec_l1New_l2
      have:¬ ((i:Int) < (code.length:Int)):=by omega
      simp only [this,decide_false,cond_false,spec_l1New_j3,spec_l1New_j1]
      exact ⟨_,rfl,⟨Int.le_refl 0,Int.natCast_nonneg _,h⟩⟩
    | succ m ih =>
      intro k i x hi hk
      obtain ⟨k,rfl⟩:∃ j,k=j+1:=⟨k - 1,by omega⟩
      unfold spec_l1New_l2
      have hlt:(i:Int) < (code.length:Int):=by omega
      simp only [hlt,decide_true,cond_true,spec_l1New_j3]
      by_cases h4:(i:Int) < 4000
      · simp only [h4,decide_true,cond_true,idx_nat]
        obtain ⟨y,hy⟩:∃ y,code[i]?=some y:=⟨code[i],List.getElem?_eq_getElem (by omega)⟩
        rw [hy]
        simp only [Option.bind_some]
        rw [bAdd_succ (by omega)]
        exact ih k (i+1) _ (by omega) (by omega)
      · simp only [h4,decide_false,cond_false,spec_l1New_j1]
        exact ⟨_,rfl,⟨Int.le_refl 0,Int.natCast_nonneg _,h⟩⟩
  exact key code.length u 0 _ (by omega) (by omega)
theorem l1Byte_dr (u:Nat) {c:l1Cur} (hc:Cu c):Dr (spec_l1Byte u c) (fun v=>0≤v∧v≤255):=by
  have h0:=hc.i0
  have h1:=hc.n
  have h2:=hc.len
  unfold spec_l1Byte
  by_cases h:c.fI < (c.fB.length:Int)
  · simp only [h,decide_true,cond_true]
    obtain ⟨i,hi⟩:∃ i:Nat,c.fI=(i:Int):=⟨c.fI.toNat,by omega⟩
    rw [hi,idx_nat,List.getElem?_eq_getElem (by omega)]
    simp only [Option.bind_some,spec_l1Byte_j1]
    exact Dr_some (and255 _) ⟨by show 0≤bAdd .i64 (i:Int) 1; rw [bAdd_succ (by omega)]; omega,by show bAdd .i64 (i:Int) 1≤(c.fB.length:Int); rw [bAdd_succ (by omega)]; omega,h2⟩
  · simp only [h,decide_false,cond_false,spec_l1Byte_j1]
    exact Dr_some (and255 _) ⟨h0,h1,h2⟩
theorem l1Below_dr (u:Nat) {c:l1Cur} (hc:Cu c) (n:Int):Dr (spec_l1Below u c n) (fun v=>0≤v∧(0 < n→v < n)):=by
  unfold spec_l1Below
  by_cases h:n≤0
  · simp only [h,decide_true,cond_true]
    exact Dr_some ⟨Int.le_refl 0,fun h'=>by omega⟩ hc
  · have hn:(!(n == 0))=true:=by simp; omega
    have hr:∀ a:Int,0≤a→0≤bRem .i64 a n∧(0 < n→bRem .i64 a n < n):=fun a ha=>by
      rw [bRem_pos ha]
      exact ⟨Int.emod_nonneg _ (by omega),fun _=>Int.emod_lt_of_pos _ (by omega)⟩
    simp only [h,decide_false,cond_false]
    by_cases h2:n≤256
    · simp only [h2,decide_true,cond_true]
      refine Dr_bind (l1Byte_dr u hc) fun v c' hv hc'=>?_
      rw [hn]
      exact Dr_some (hr v hv.1) hc'
    · simp only [h2,decide_false,cond_false]
      refine Dr_bind (l1Byte_dr u hc) fun v c' hv hc'=>?_
      refine Dr_bind (l1Byte_dr u hc') fun v2 c2 hv2 hc2=>?_
      refine Dr_bind (l1Byte_dr u hc2) fun v3 c3 hv3 hc3=>?_
      rw [hn]
      refine Dr_some (hr _ ?_) hc3
      simp only
      rw [bMul_i64 (by omega) (by omega),bMul_i64 (by omega) (by omega),bAdd_i64 (a:=v*65536) (b:=v2*256) (by omega) (by omega),bAdd_i64 (by omega) (by omega)]
      omega
theorem l1Int_dr (u:Nat) {c:l1Cur} (hc:Cu c) {xs:List Int} (hx:0 < xs.length):Dr (spec_l1Int u c xs) (fun v=>v∈xs):=by
  unfold spec_l1Int
  refine Dr_bind (l1Below_dr u hc _) fun v c' hv hc'=>?_
  have hlt:=hv.2 (by omega)
  obtain ⟨i,hi⟩:∃ i:Nat,v=(i:Int):=⟨v.toNat,by omega⟩
  subst hi
  have hi:i < xs.length:=by omega
  simp only [idx_nat,List.getElem?_eq_getElem hi,Option.bind_some]
  exact Dr_some (List.getElem_mem hi) hc'
def M.addPut (d:Disk) (p:Put):Disk:=⟨d.fA,d.fB,d.fR,d.fP++[p]⟩
theorem addPut_ok {d:Disk} {p:Put} (hd:M.DOk d) (hl:d.fP.length≤1048575) (hp:p.fB.length≤1048576):M.DOk (M.addPut d p) :=
  ⟨hd.a,hd.b,by simp [M.addPut]; omega,fun x hx=>by
    rcases List.mem_append.1 hx with h | h
    · exact hd.puts x h
    · simp at h; subst h; exact hp⟩
def M.lays:List Put→Disk→Disk
  | [],d=>⟨d.fA,d.fB,d.fR,[]⟩
  | p :: l,d=>M.lays l (M.onePut d p)
def M.sure (d:Disk):Disk:=if M.diskOk d then M.lays d.fP d else d
theorem lays_ok:∀ (l:List Put) (d:Disk),(∀ p∈l,M.putOk p=true)→M.DOk d→M.DOk (M.lays l d)
  | [],d,_,hd=>⟨hd.a,hd.b,by simp [M.lays],by simp [M.lays]⟩
  | p :: l,d,hp,hd=>lays_ok l _ (fun q hq=>hp q (by simp [hq])) (onePut_ok hd (hp p (by simp)))
theorem sure_ok {d:Disk} (hd:M.DOk d):M.DOk (M.sure d):=by
  unfold M.sure
  cases h:M.diskOk d with
  | true=>exact lays_ok _ _ (diskOk_puts h) hd
  | false=>exact hd
theorem laws_same_refl {u:Nat} (hu:1099511627776≤u) {a:List Int} (h:a.length≤1048576):laws_same u a a=some true:=by
  unfold laws_same
  simp only [bne_self_eq_false,cond_false]
  rw [laws_same_l2_w u a a () u (by omega) (by omega),wlist_all (fun x i k hx=>by unfold laws_same_l2_b; rw [idx_nat,hx]; simp only [Option.bind_some,bne_self_eq_false,cond_false]) a 0 rfl]
  rfl
theorem laws_sameDisk_refl {u:Nat} (hu:1099511627776≤u) {d:Disk} (h:M.DOk d):laws_sameDisk u d d=some true:=by
  have hp:=h.p
  unfold laws_sameDisk
  rw [laws_same_refl hu h.a,laws_same_refl hu h.b]
  simp only [Option.bind_some,Bool.not_true,cond_false,beq_self_eq_true,bne_self_eq_false,laws_sameDisk_j1]
  rw [laws_sameDisk_l3_w u d d () u (by omega) (by omega),wlist_all (fun x i k hx=>by
    unfold laws_sameDisk_l3_b
    rw [idx_nat,hx]
    have hb:=h.puts x (List.mem_of_getElem? hx)
    simp only [Option.bind_some,bne_self_eq_false,beq_self_eq_true,Bool.not_true,cond_false,laws_sameDisk_j4,laws_same_refl hu hb]) d.fP 0 rfl]
  rfl
theorem findFrom_some {b:List Int} {s:Sum} {n:Nat}:∀ (c i j:Nat),i≤j→j < i+c→M.sumOf (M.win b j n)=s→0≤M.findFrom b s n c i
  | 0,i,j,h1,h2,_=>by omega
  | c+1,i,j,h1,h2,h3=>by
    unfold M.findFrom
    split
    · omega
    · rename_i hne
      have:i≠j:=fun h=>hne (h ▸ h3)
      exact findFrom_some c (i+1) j (by omega) (by omega) h3
theorem u8_b (n:Int):0≤IntKind.wrap .u8 n∧IntKind.wrap .u8 n≤255:=by
  show 0≤n % 256∧n % 256≤255
  omega
theorem bytes_one (n:Int):M.isBytes [IntKind.wrap .u8 n]:=fun x hx=>by
  simp only [List.mem_singleton] at hx
  subst hx
  exact u8_b n
theorem bytes_app {a b:List Int} (ha:M.isBytes a) (hb:M.isBytes b):M.isBytes (a++b):=fun x hx=>(List.mem_append.1 hx).elim (ha x) (hb x)
theorem bytes_set {a:List Int} (ha:M.isBytes a) (i:Nat) {v:Int} (hv:0≤v∧v≤255):M.isBytes (a.set i v):=fun x hx=>by
  rcases List.mem_or_eq_of_mem_set hx with h | h
  · exact ha x h
  · subst h; exact hv
theorem bytes_take {a:List Int} (ha:M.isBytes a) (n:Nat):M.isBytes (a.take n):=fun x hx=>ha x (List.mem_of_mem_take hx)
theorem bytes_drop {a:List Int} (ha:M.isBytes a) (n:Nat):M.isBytes (a.drop n):=fun x hx=>ha x (List.mem_of_mem_drop hx)
theorem bytes_nil:M.isBytes []:=fun x hx=>by cases hx
def M.img (n:Nat) (b:List Int):Prop:=b.length≤n∧M.isBytes b
theorem l3Bytes_drB {u:Nat} (hu:1099511627776≤u) {c:l1Cur} (hc:Cu c) {n:Nat} (hn:n≤1000):Dr (spec_l3Bytes u c (n:Int)) (M.img n):=by
  unfold spec_l3Bytes
  rw [bAdd_succ (by omega)]
  refine Dr_bind (l1Below_dr u hc _) fun v c1 hv hc1=>?_
  have hlt:=hv.2 (by omega)
  obtain ⟨m,hm⟩:∃ m:Nat,v=(m:Int):=⟨v.toNat,by omega⟩
  subst hm
  have key:∀ (m k:Nat) (x:List Int) (c:l1Cur),m < k→Cu c→x.length+m≤1000→M.isBytes x→Dr (spec_l3Bytes_l2 u k x (m:Int) c.fB c.fI c.fH) (M.img (x.length+m)):=by
    intro m
    induction m with
    | zero =>
      intro k x c hk hc hx hb
      obtain ⟨k,rfl⟩:∃ j,k=j+1:=⟨k - 1,by omega⟩
      unfold spec_l3Bytes_l2
      simp only [Int.natCast_zero,gt_iff_lt,Int.lt_irrefl,decide_false,cond_false,spec_l3Bytes_j1]
      exact Dr_some ⟨Nat.le_refl _,hb⟩ hc
    | succ m ih =>
      intro k x c hk hc hx hb
      obtain ⟨k,rfl⟩:∃ j,k=j+1:=⟨k - 1,by omega⟩
      unfold spec_l3Bytes_l2
      have:((m+1:Nat):Int) > 0:=by omega
      simp only [this,decide_true,cond_true]
      refine Dr_bind (l1Int_dr u hc (xs:=[97,98,99,0,255]) (by simp)) fun v c2 hv hc2=>?_
      rw [chk_dec (by simp; omega)]
      simp only [Option.bind_some]
      rw [bSub_i64 (by omega) (by omega)]
      have e:((m+1:Nat):Int) - 1=(m:Int):=by omega
      rw [e]
      refine Dr_mono (ih k _ c2 (by omega) hc2 (by simp; omega) (bytes_app hb (bytes_one _))) fun v h=>?_
      have h1:=h.1
      simp only [List.length_append,List.length_cons,List.length_nil] at h1
      exact ⟨by omega,h.2⟩
  refine Dr_mono (key m u [] c1 (by omega) hc1 (by simp; omega) bytes_nil) fun v h=>?_
  have h1:=h.1
  simp only [List.length_nil] at h1
  exact ⟨by omega,h.2⟩
theorem l6Image_dr {u:Nat} (hu:1099511627776≤u) {c:l1Cur} (hc:Cu c):Dr (spec_l6Image u c) (M.img 16):=by
  unfold spec_l6Image
  exact Dr_bind (l3Bytes_drB hu hc (n:=16) (by omega)) fun v c1 hv hc1=>Dr_some hv hc1
theorem l1Bent_drB (u:Nat) {c:l1Cur} (hc:Cu c) {b:List Int} (hb:b.length≤200) (hB:M.isBytes b):Dr (spec_l1Bent u c b) (M.img 201):=by
  unfold spec_l1Bent
  rw [chk_dec (by simp; omega)]
  simp only [Option.bind_some,List.nil_append]
  have hlt:∀ {v:Int},0≤v→v < (b.length:Int)→∃ y,idx b v=some y:=fun {v} h0 h1=>by
    obtain ⟨i,rfl⟩:∃ i:Nat,v=(i:Int):=⟨v.toNat,by omega⟩
    exact ⟨b[i]'(by omega),by rw [idx_nat]; exact List.getElem?_eq_getElem (by omega)⟩
  have self:M.img 201 b:=⟨by omega,hB⟩
  refine Dr_bind (l1Below_dr u hc 6) fun n c1 _ h1=>?_
  simp only
  cases n == 0 with
  | true =>
    simp only [cond_true]
    by_cases hl:(b.length:Int) > 0
    · simp only [hl,decide_true,cond_true]
      refine Dr_bind (l1Below_dr u h1 _) fun v c2 hv h2=>?_
      refine Dr_bind (l1Below_dr u h2 256) fun w c3 _ h3=>?_
      obtain ⟨y,hy⟩:=hlt hv.1 (hv.2 hl)
      simp only [hy,Option.bind_some,spec_l1Bent_j1]
      exact Dr_some ⟨by rw [List.length_set]; omega,bytes_set hB _ (u8_b _)⟩ h3
    · simp only [hl,decide_false,cond_false,spec_l1Bent_j1]
      exact Dr_some self h1
  | false =>
    simp only [cond_false]
    cases n == 1 with
    | true =>
      simp only [cond_true]
      rw [bAdd_succ (by omega)]
      refine Dr_bind (l1Below_dr u h1 _) fun v c2 hv h2=>?_
      have h3:=hv.2 (by omega)
      have hs:sliceOK 0 v (b.length:Int)=true:=by simp [sliceOK]; omega
      simp only [hs,chk_true,Option.bind_some,spec_l1Bent_j1]
      exact Dr_some ⟨by rw [List.length_drop,List.length_take]; omega,bytes_drop (bytes_take hB _) _⟩ h2
    | false =>
      simp only [cond_false]
      cases n == 2 with
      | true =>
        simp only [cond_true]
        refine Dr_bind (l1Int_dr u h1 (by simp)) fun v c2 _ h2=>?_
        rw [chk_dec (by simp; omega)]
        simp only [Option.bind_some,spec_l1Bent_j1]
        exact Dr_some ⟨by rw [List.length_append,List.length_singleton]; omega,bytes_app hB (bytes_one _)⟩ h2
      | false =>
        simp only [cond_false]
        cases n == 3 with
        | true =>
          simp only [cond_true]
          by_cases hl:(b.length:Int) > 0
          · simp only [hl,decide_true,cond_true]
            refine Dr_bind (l1Below_dr u h1 _) fun v c2 hv h2=>?_
            obtain ⟨y,hy⟩:=hlt hv.1 (hv.2 hl)
            simp only [hy,Option.bind_some]
            refine Dr_bind (l1Below_dr u h2 8) fun w c3 hw h3=>?_
            have hw0:=hw.1
            simp only [hy]
            rw [chk_dec hw0]
            simp only [Option.bind_some,spec_l1Bent_j1]
            exact Dr_some ⟨by rw [List.length_set]; omega,bytes_set hB _ (by unfold bXor; exact u8_b _)⟩ h3
          · simp only [hl,decide_false,cond_false,spec_l1Bent_j1]
            exact Dr_some self h1
        | false =>
          simp only [cond_false,spec_l1Bent_j1]
          exact Dr_some self h1
theorem l7Old_dr2 {u:Nat} (hu:1099511627776≤u) {c:l1Cur} (hc:Cu c) {b:List Int} (hb:b.length≤200) (hB:M.isBytes b):Dr (spec_l7Old u c b) (M.img 240):=by
  unfold spec_l7Old
  refine Dr_bind (l1Below_dr u hc 5) fun n c1 _ h1=>?_
  simp only
  cases n == 0 with
  | true =>
    simp only [cond_true]
    exact Dr_bind (l3Bytes_drB hu h1 (n:=16) (by omega)) fun v c2 hv h2=>Dr_some ⟨Nat.le_trans hv.1 (by omega),hv.2⟩ h2
  | false =>
    simp only [cond_false]
    cases n == 1 with
    | true =>
      simp only [cond_true]
      rw [chk_dec (by simp; omega)]
      simp only [Option.bind_some,List.nil_append]
      exact Dr_some ⟨by omega,hB⟩ h1
    | false =>
      simp only [cond_false]
      cases n == 2 with
      | true =>
        simp only [cond_true]
        rw [bAdd_succ (by omega)]
        refine Dr_bind (l1Below_dr u h1 _) fun v c2 hv h2=>?_
        have h3:=hv.2 (by omega)
        have h0:=hv.1
        have s1:sliceOK v (b.length:Int) (b.length:Int)=true:=by simp [sliceOK]; omega
        have s2:sliceOK 0 v (b.length:Int)=true:=by simp [sliceOK]; omega
        simp only [s1,s2,chk_true,Option.bind_some]
        rw [chk_dec (by simp; omega)]
        simp only [Option.bind_some]
        rw [chk_dec (by simp; omega)]
        simp only [Option.bind_some]
        refine Dr_some ⟨by simp; omega,bytes_app (bytes_app (fun x hx=>?_) (bytes_drop (bytes_take hB _) _)) (bytes_drop (bytes_take hB _) _)⟩ h2
        simp only [List.mem_singleton] at hx
        omega
      | false =>
        simp only [cond_false]
        cases n == 3 with
        | true =>
          simp only [cond_true]
          exact Dr_some ⟨by simp,bytes_nil⟩ h1
        | false =>
          simp only [cond_false]
          refine Dr_bind (l3Bytes_drB hu h1 (n:=3) (by omega)) fun v c2 hv h2=>?_
          refine Dr_bind (l1Bent_drB u h2 hb hB) fun w c3 hw h3=>?_
          have hv1:=hv.1
          have hw1:=hw.1
          simp only
          rw [chk_dec (by omega)]
          simp only [Option.bind_some]
          exact Dr_some ⟨by rw [List.length_append]; omega,bytes_app hv.2 hw.2⟩ h3
theorem nil_bytes:M.isBytes []:=fun x hx=>by simp at hx
theorem impl_Sure_w {u:Nat} (hu:1099511627776≤u) (d0:Disk):∀ (l:List Put) (i:Nat) (d:Disk),(∀ p∈l,M.putOk p=true)→M.DOk d→wlist (impl_Disk__settled__impl_Sure_1_l2_f u d0) (impl_Disk__settled__impl_Sure_1_l2_b u d0) l i (tup d)=some (M.lays l d):=by
  intro l
  induction l with
  | nil=>intro i d _ _; rfl
  | cons p l ih =>
    intro i d hp hd
    have h0:=hp p (by simp)
    simp only [wlist,impl_Disk__settled__impl_Sure_1_l2_b,impl_Disk__settled__impl_Sure_1_j3,impl_Sure_1,Option.bind_some,cond_true,M.lays]
    rw [show (Disk.mk (tup d).1 (tup d).2.1 (Record.mk (tup d).2.2.1 (tup d).2.2.2.1 (tup d).2.2.2.2.1) (tup d).2.2.2.2.2)=d by rfl,impl_perform_eq hu hd h0]
    exact ih (i+1) _ (fun q hq=>hp q (by simp [hq])) (onePut_ok hd h0)
theorem impl_Sure_eq {u:Nat} (hu:1099511627776≤u) {d:Disk} (hd:M.DOk d):impl_Sure u d=some (M.sure d):=by
  have h3:=hd.p
  unfold impl_Sure impl_Disk__settled__impl_Sure_1 M.sure
  rw [impl_copyDisk_eq hu hd,impl_DiskOk_eq hu hd]
  simp only [Option.bind_some]
  cases h:M.diskOk d with
  | false=>rfl
  | true =>
    simp only [Bool.not_true,cond_false,if_true]
    have e:=impl_Sure_w hu d d.fP 0 d (diskOk_puts h) hd
    rw [← impl_Disk__settled__impl_Sure_1_l2_w u d (tup d) u (by omega) (by omega)] at e
    rw [show impl_Disk__settled__impl_Sure_1_l2 u u d 0 d.fA d.fB d.fR.fGen d.fR.fSlot d.fR.fLen d.fP=_ from e]; rfl
theorem impl_copyPut_eq (u:Nat) {p:Put} (h:p.fB.length≤1048576):impl_copyPut u p=some p:=by
  unfold impl_copyPut impl_cloned
  have h0:(0:Int)≤(p.fB.length:Int):=Int.natCast_nonneg _
  simp only [h0,decide_true,beq_self_eq_true,Bool.true_or,Bool.and_self,chk_true,Option.bind_some]
  rw [chk_dec (by simp; omega),Option.bind_some,chk_dec (by simp; omega)]
  simp
theorem impl_with_eq {u:Nat} (hu:1099511627776≤u) {d:Disk} {p:Put} (hd:M.DOk d) (hl:d.fP.length≤1048575) (hp:p.fB.length≤1048576) :
    impl_Disk__with u d p=some (if M.diskOk (M.addPut d p) then (M.addPut d p,true) else (d,false)):=by
  have hap:=hd.p
  unfold impl_Disk__with
  rw [impl_copyDisk_eq hu hd]
  simp only [Option.bind_some]
  rw [impl_copyPut_eq u hp]
  simp only [Option.bind_some]
  rw [chk_dec (by simp; omega)]
  simp only [Option.bind_some]
  have e:(Disk.mk d.fA d.fB d.fR (d.fP++[p]))=M.addPut d p:=rfl
  rw [e,impl_DiskOk_eq hu (addPut_ok hd hl hp)]
  simp only [Option.bind_some]
  cases h:M.diskOk (M.addPut d p) <;> simp
theorem impl_FullSet_eq (u:Nat) {n:Nat} (h:n≤40):impl_FullSet u n=some ((2 ^ n - 1:Nat):Int):=by
  unfold impl_FullSet
  have h1:M.within (n:Int) 0 40=true:=by simp [M.within]; omega
  rw [impl_within_eq,h1]
  simp only [Option.bind_some,Bool.not_true,cond_false]
  have h2:(2:Nat) ^ n≤2 ^ 40:=Nat.pow_le_pow_right (by omega) h
  have h3:0 < (2:Nat) ^ n:=Nat.pow_pos (by omega)
  rw [chk_dec (by omega),bShl1_nat (by omega)]
  generalize (2:Nat) ^ n=p at *
  rw [bSub_i64 (by omega) (by omega)]
  simp only [Option.bind_some]
  congr 1
  omega
theorem inSet_full {n i:Nat} (hn:n≤40) (hi:i < n):M.inSet ((2 ^ n - 1:Nat):Int) (i:Int)=true:=by
  unfold M.inSet
  have h2:(2:Nat) ^ n≤2 ^ 40:=Nat.pow_le_pow_right (by omega) hn
  have h3:0 < (2:Nat) ^ n:=Nat.pow_pos (by omega)
  have ha:M.setOk ((2 ^ n - 1:Nat):Int)=true:=by
    simp only [M.setOk,M.within,Bool.and_eq_true,decide_eq_true_eq]
    omega
  have hb:M.isPlace (i:Int)=true:=by simp only [M.isPlace,M.within,Bool.and_eq_true,decide_eq_true_eq]; omega
  rw [ha,hb,Int.toNat_natCast,Int.toNat_natCast,Nat.testBit_two_pow_sub_one]
  simp [hi]
theorem lays_nil:∀ (l:List Put) (d:Disk),(M.lays l d).fP=[]
  | [],d=>rfl
  | p :: l,d=>lays_nil l _
def M.allI {α:Type} (f:α→Nat→Bool):List α→Nat→Bool
  | [],_=>true
  | x :: l,i=>f x i && M.allI f l (i+1)
theorem wlist_allI {α:Type} {fin:Unit→Option Bool} {body:α→Nat→Unit→(Unit→Option Bool)→Option Bool} (f:α→Nat→Bool) {xs:List α} {b:Bool} (hf:fin ()=some b) (i0:Nat) (hb:∀ x i k,i0≤i→xs[i]?=some x→body x i () k=bif f x i then k () else some false) :
    ∀ (l:List α) (i:Nat),i0≤i→l=xs.drop i→wlist fin body l i ()=some (M.allI f l i && b):=by
  intro l
  induction l with
  | nil=>intro i _ _; simp [wlist,M.allI,hf]
  | cons x l ih =>
    intro i h0 h
    have hx:xs[i]?=some x:=by
      have:=congrArg List.head? h
      simpa [List.head?_drop] using this.symm
    have hl:l=xs.drop (i+1):=by
      have:=congrArg List.tail h
      simpa [List.tail_drop] using this
    simp only [wlist,M.allI]
    rw [hb x i _ h0 hx,ih (i+1) (by omega) hl]
    cases f x i <;> simp
def M.fullSet (n:Nat):Int:=if n≤40 then ((2 ^ n - 1:Nat):Int) else 0
theorem impl_AllParts_eq (u:Nat) {m:Manifest}:impl_AllParts u m=some (M.fullSet m.fSums.length):=by
  unfold impl_AllParts M.fullSet
  by_cases h:m.fSums.length≤40
  · rw [impl_FullSet_eq u h]; simp [h]
  · have h1:M.within (m.fSums.length:Int) 0 40=false:=by
      unfold M.within; simp; omega
    unfold impl_FullSet
    rw [impl_within_eq,h1]
    simp [h]
theorem fullSet_ok (n:Nat):M.setOk (M.fullSet n)=true:=by
  unfold M.fullSet M.setOk M.within
  split
  · rename_i h
    have h2:(2:Nat) ^ n≤2 ^ 40:=Nat.pow_le_pow_right (by omega) h
    simp; omega
  · rfl
def M.without (a b:Int):Int:=if M.setOk a && M.setOk b then bAndNot .i64 a b else 0
theorem impl_Without_eq (u:Nat) (a b:Int):impl_Without u a b=some (M.without a b):=by
  unfold impl_Without impl_Without_j1 M.without
  simp only [impl_SetOk_eq,Option.bind_some]
  cases M.setOk a <;> cases M.setOk b <;> rfl
def M.missing (m:Manifest) (x:Build):Int:=M.without (M.fullSet m.fSums.length) x.fHave
theorem impl_Missing_eq (u:Nat) (m:Manifest) (x:Build):impl_Missing u m x=some (M.missing m x):=by
  unfold impl_Missing M.missing
  simp only [impl_AllParts_eq,impl_Without_eq,Option.bind_some]
def M.at_ (m:Manifest) (i:Int):Nat:=(M.spanOf m.fSize m.fLen i).1.toNat
def M.ln (m:Manifest) (i:Int):Nat:=(M.spanOf m.fSize m.fLen i).2.toNat
def M.piece (m:Manifest) (x:Build) (i:Int):List Int:=M.win x.fBuf (M.at_ m i) (M.ln m i)
theorem span_cut {m:Manifest} {b:List Int} (hb:(b.length:Int)=m.fLen) (hl:b.length≤1048576) (i:Int) :
    chk (sliceOK (M.spanOf m.fSize m.fLen i).1 (bAdd .i64 (M.spanOf m.fSize m.fLen i).1 (M.spanOf m.fSize m.fLen i).2) b.length)=some () ∧
    (b.take (Int.toNat (bAdd .i64 (M.spanOf m.fSize m.fLen i).1 (M.spanOf m.fSize m.fLen i).2))).drop (Int.toNat (M.spanOf m.fSize m.fLen i).1)=M.win b (M.at_ m i) (M.ln m i) ∧
    M.at_ m i+M.ln m i≤b.length∧M.ln m i≤6:=by
  obtain ⟨h1,h2,h3,h4⟩:=spanOf_range (size:=m.fSize) (n:=m.fLen) (i:=i) (by omega)
  unfold M.at_ M.ln
  generalize M.spanOf m.fSize m.fLen i=s at *
  obtain ⟨a,c⟩:=s
  dsimp only at *
  obtain ⟨a,rfl⟩:∃ n:Nat,a=n:=⟨a.toNat,by omega⟩
  obtain ⟨c,rfl⟩:∃ n:Nat,c=n:=⟨c.toNat,by omega⟩
  simp only [Int.toNat_natCast] at *
  rw [bAdd_nat (by omega),sliceOK_nat (by omega) (by omega)]
  exact ⟨rfl,rfl,by omega,by omega⟩
def M.pieceFit (m:Manifest) (x:Build) (s:Sum) (i:Nat):Bool :=
  if M.inSet x.fHave i then decide (M.sumOf (M.piece m x i)=s) else (M.piece m x i).all fun c=>c == 0
def M.buildOk (m:Manifest) (x:Build):Bool :=
  M.manOk m && M.setOk x.fHave && (M.without x.fHave (M.fullSet m.fSums.length) == 0) && ((x.fBuf.length:Int) == m.fLen) && M.allI (M.pieceFit m x) m.fSums 0
theorem contains_nz {u:Nat} (hu:1099511627776≤u) {b:List Int} (hl:b.length≤1048576):slices_ContainsFunc___byte_byte__impl_BuildOk_1 u b=some (b.any fun c=>c != 0):=by
  unfold slices_ContainsFunc___byte_byte__impl_BuildOk_1 slices_IndexFunc___byte_byte__impl_BuildOk_1
  rw [slices_IndexFunc___byte_byte__impl_BuildOk_1_l2_w u b () u (by omega) (by omega),wlist_index (fun (c:Int)=>c != 0) rfl (fun x i k _=>rfl)]
  simp only [Option.bind_some,idxFrom_any]
theorem all_any (b:List Int):(b.any fun c=>c != 0)=!(b.all fun c=>c == 0):=by
  rw [List.not_all_eq_any_not]; rfl
structure M.BldWf (x:Build):Prop where
  b:M.isBytes x.fBuf
  l:x.fBuf.length≤1048576
theorem win_bytes {b:List Int} (h:M.isBytes b) (hl:b.length≤1048576) (i n:Nat):M.isBytes (M.win b i n)∧(M.win b i n).length≤1048576:=by
  refine ⟨isBytes_win h i n,?_⟩
  have:(M.win b i n).length≤b.length:=by unfold M.win; simp; omega
  omega
theorem without_ok {a b:Int} (ha:M.setOk a=true) (hb:M.setOk b=true):M.without a b=bAndNot .i64 a b:=by simp [M.without,ha,hb]
theorem impl_block_eq (u:Nat) {m:Manifest} {x:Build} (hx:M.BldWf x) (hb:(x.fBuf.length:Int)=m.fLen) (i:Int):impl_Build__block u x m i=some (M.piece m x i):=by
  obtain ⟨c1,c2,c3,c4⟩:=span_cut hb hx.l i
  unfold impl_Build__block M.piece
  simp only [impl_SpanOf_eq,Option.bind_some,c1,c2]
theorem impl_BuildOk_eq {u:Nat} (hu:1099511627776≤u) {m:Manifest} (hm:m.fSums.length≤1048576) {x:Build} (hx:M.BldWf x):impl_BuildOk u m x=some (M.buildOk m x):=by
  unfold impl_BuildOk impl_BuildOk_j1 M.buildOk
  simp only [impl_ManOk_eq hu m (show m.fSums.length≤1073741824 by omega),impl_SetOk_eq,impl_AllParts_eq,Option.bind_some]
  cases M.manOk m with
  | false=>rfl
  | true=>cases hs:M.setOk x.fHave with
    | false=>rfl
    | true =>
      rw [ne_beq,ne_beq,without_ok hs (fullSet_ok _)]
      cases bAndNot .i64 x.fHave (M.fullSet m.fSums.length) == 0 with
      | false=>rfl
      | true =>
        by_cases hb:(x.fBuf.length:Int)=m.fLen
        · have e:((x.fBuf.length:Int) == m.fLen)=true:=by simpa using hb
          simp only [e,Bool.not_true,cond_false,Bool.and_self,Bool.true_and]
          have hl:=hx.l
          rw [impl_BuildOk_l3_w u m x () u (by omega) (by omega),wlist_allI (M.pieceFit m x) (xs:=m.fSums) (b:=true) rfl 0 (fun s i k _ hs=>?_) m.fSums 0 (Nat.le_refl _) rfl,Bool.and_true]
          obtain ⟨b1,b2⟩:=win_bytes hx.b hl (M.at_ m i) (M.ln m i)
          have b3:M.isBytes (M.piece m x i)∧(M.piece m x i).length≤1048576:=⟨b1,b2⟩
          unfold impl_BuildOk_l3_b impl_BuildOk_j4 M.pieceFit
          simp only [impl_block_eq u hx hb,impl_InSet_eq,Option.bind_some,impl_SumOf_eq hu b3.1 (show _≤1073741824 by omega),contains_nz hu b3.2,sum_beq,all_any]
          cases M.inSet x.fHave i with
          | true=>simp only [cond_true,↓reduceIte,Bool.not_true,cond_false]; cases decide (M.sumOf (M.piece m x i)=s) <;> rfl
          | false=>simp only [cond_false,Bool.not_false,cond_true,Bool.false_eq_true,↓reduceIte]; cases (M.piece m x i).all fun c=>c == 0 <;> rfl
        · have e:((x.fBuf.length:Int) == m.fLen)=false:=by simpa using hb
          simp [e]
def M.whole (m:Manifest) (x:Build):Bool:=(m.fGen != 0) && M.buildOk m x && (M.missing m x == 0)
theorem impl_Whole_eq {u:Nat} (hu:1099511627776≤u) {m:Manifest} (hm:m.fSums.length≤1048576) {x:Build} (hx:M.BldWf x):impl_Whole u m x=some (M.whole m x):=by
  unfold impl_Whole M.whole
  simp only [impl_BuildOk_eq hu hm hx,impl_Missing_eq,Option.bind_some]
  cases m.fGen != 0 <;> cases M.buildOk m x <;> rfl
def M.tells (m:Manifest) (b:List Int):Bool:=((b.length:Int) == m.fLen) && M.same (fun x y=>decide (x=y)) (M.sumsOf b m.fSize) m.fSums
theorem impl_Tells_eq {u:Nat} (hu:1099511627776≤u) (m:Manifest) {b:List Int} (hb:M.isBytes b) (hl:b.length≤1048576):impl_Tells u m b=some (M.tells m b):=by
  unfold impl_Tells M.tells
  rw [impl_SumsOf_eq hu hb (by omega)]
  simp only [Option.bind_some]
  rw [slices_Equal___impl_Sum_impl_Sum_eq hu (by unfold M.sumsOf; have:=blocks_range m.fSize b.length; simp; omega)]
  cases (b.length:Int) == m.fLen <;> rfl
theorem valS_low:∀ (b:List Int) (s:Int) (n:Nat),M.isBytes b→(256:Int) ^ n≤s→(256:Int) ^ (n+b.length)≤M.valS b s:=by
  intro b
  induction b with
  | nil=>intro s n _ h; exact h
  | cons c b ih =>
    intro s n hb h
    have hc:=hb c (by simp)
    have:=ih (256*s+c) (n+1) (fun z hz=>hb z (by simp [hz])) (by rw [Int.pow_succ]; omega)
    simp only [List.length_cons,M.valS]
    rwa [show n+(b.length+1)=n+1+b.length by omega]
theorem manOk_lenb {m:Manifest} (hm:M.manOk m=true):0≤m.fLen∧m.fLen≤240:=by
  unfold M.manOk at hm
  split at hm
  · simp only [Bool.and_eq_true,beq_iff_eq] at hm; omega
  · simp only [Bool.and_eq_true] at hm
    have:=sizeOk_t hm.1.1.2
    omega
def M.put (m:Manifest) (x:Build) (i:Int) (b:List Int):Build:=⟨bOr .i64 x.fHave (bShl .i64 1 i),overL x.fBuf b (M.at_ m i)⟩
theorem span_nat {m:Manifest} {b:List Int} (hb:(b.length:Int)=m.fLen) (i:Int):(M.spanOf m.fSize m.fLen i).1=(M.at_ m i:Int)∧(M.spanOf m.fSize m.fLen i).2=(M.ln m i:Int)∧M.at_ m i+M.ln m i≤b.length:=by
  obtain ⟨h1,h2,h3,h4⟩:=spanOf_range (size:=m.fSize) (n:=m.fLen) (i:=i) (by omega)
  unfold M.at_ M.ln
  omega
theorem impl_put_eq (u:Nat) {m:Manifest} {x:Build} (hx:(x.fBuf.length:Int)=m.fLen) (n:Nat) {b:List Int} (hl:b.length≤M.ln m n) (hxl:x.fBuf.length≤1048576):impl_Build__put u x m n b=some (M.put m x n b):=by
  obtain ⟨e1,e2,e3⟩:=span_nat (b:=x.fBuf) hx n
  unfold impl_Build__put impl_Build__block__w M.put
  rw [impl_SpanOf_eq]
  simp only [Option.bind_some]
  rw [e1,e2,bAdd_nat (by omega),sliceOK_nat (by omega) e3]
  simp only [Option.bind_some]
  have h1:cpOK (M.at_ m n:Int) ((M.at_ m n+M.ln m n:Nat):Int) (x.fBuf.length:Int) (b.length:Int)=true:=by unfold cpOK; simp; omega
  rw [h1,chk_dec (by omega),Int.toNat_natCast]
  rfl
def M.fromS (m:Manifest) (old:List Int):Nat→Nat→Build→Build
  | 0,_,x=>x
  | n+1,i,x=>M.fromS m old n (i+1) (if 0≤M.placeOf old m i then M.put m x i (M.win old (M.placeOf old m i).toNat (M.ln m i)) else x)
def M.buildNew (m:Manifest):Build:=if M.manOk m then ⟨0,List.replicate m.fLen.toNat 0⟩ else ⟨0,[]⟩
def M.buildFrom (m:Manifest) (old:List Int):Build:=if M.manOk m then M.fromS m old m.fSums.length 0 (M.buildNew m) else ⟨0,[]⟩
theorem buildNew_chk {m:Manifest} (hm:M.manOk m=true):chk (decide (0≤m.fLen) && (m.fLen == 0 || m.fLen == m.fLen))=some ()∧chk (decide (Int.toNat m.fLen*1≤140737488355328))=some ():=by
  have:=manOk_lenb hm
  refine ⟨by simp [chk]; omega,chk_dec (by omega)⟩
theorem impl_BuildNew_eq {u:Nat} (hu:1099511627776≤u) {m:Manifest} (hm:m.fSums.length≤1048576):impl_BuildNew u m=some (M.buildNew m):=by
  unfold impl_BuildNew M.buildNew
  simp only [impl_ManOk_eq hu m (show m.fSums.length≤1073741824 by omega),Option.bind_some]
  cases h:M.manOk m with
  | false=>rfl
  | true=>obtain ⟨h1,h2⟩:=buildNew_chk h; rw [h1,h2]; rfl
theorem findFrom_sum {b:List Int} {s:Sum} {n:Nat}:∀ (c i:Nat),0≤M.findFrom b s n c i→M.sumOf (M.win b (M.findFrom b s n c i).toNat n)=s
  | 0,_,h=>by simp [M.findFrom] at h
  | c+1,i,h=>by
    unfold M.findFrom at h ⊢
    split
    · rename_i hq; simpa using hq
    · rename_i hq
      rw [if_neg hq] at h
      exact findFrom_sum c (i+1) h
theorem placeOf_ge {old:List Int} {m:Manifest} {i:Nat} (h:0≤M.placeOf old m i):∃ s,m.fSums[i]?=some s∧0≤(M.spanOf m.fSize m.fLen i).2∧M.sumOf (M.win old (M.placeOf old m i).toNat (M.ln m i))=s∧(M.placeOf old m i).toNat+M.ln m i≤old.length:=by
  unfold M.placeOf at h ⊢
  split at h
  · rename_i s hs
    simp only [hs]
    unfold M.findSum at h ⊢
    split at h
    · rename_i hw
      have:=within_t hw
      rw [if_pos hw]
      have h1:=findFrom_sum _ _ h
      have h2:=findFrom_range old s (M.spanOf m.fSize m.fLen i).2.toNat (old.length+1 - (M.spanOf m.fSize m.fLen i).2.toNat) 0
      refine ⟨s,rfl,by omega,h1,?_⟩
      unfold M.ln
      omega
    · omega
  · omega
structure M.Part (m:Manifest) (i:Nat) (x:Build):Prop where
  b:M.BldWf x
  l:(x.fBuf.length:Int)=m.fLen
  h:∃ n:Nat,x.fHave=n∧n < 2 ^ i
theorem overL_bytes {x p:List Int} {a:Nat} (h:a+p.length≤x.length) (hx:M.isBytes x) (hp:M.isBytes p):M.isBytes (overL x p a)∧(overL x p a).length=x.length:=by
  rw [overL_eq h]
  refine ⟨fun z hz=>?_,by simp; omega⟩
  simp only [List.mem_append] at hz
  rcases hz with (hz | hz) | hz
  · exact hx z (List.mem_of_mem_take hz)
  · exact hp z hz
  · exact hx z (List.mem_of_mem_drop hz)
theorem part_put {m:Manifest} {i:Nat} {x:Build} (hp:M.Part m i x) (hi:i≤39) {b:List Int} (hb:M.isBytes b) (hl:b.length=M.ln m i):M.Part m (i+1) (M.put m x i b):=by
  obtain ⟨e1,e2,e3⟩:=span_nat (b:=x.fBuf) hp.l i
  obtain ⟨h1,h2⟩:=overL_bytes (x:=x.fBuf) (p:=b) (a:=M.at_ m i) (by omega) hp.b.b hb
  obtain ⟨n,h3,h4⟩:=hp.h
  have h5:(2:Nat) ^ i≤2 ^ 39:=Nat.pow_le_pow_right (by omega) hi
  refine ⟨⟨h1,by unfold M.put; dsimp only; rw [h2]; exact hp.b.l⟩,by unfold M.put; dsimp only; rw [h2]; exact hp.l,n ||| 2 ^ i,?_,?_⟩
  · unfold M.put
    dsimp only
    rw [h3,bShl1_nat (by omega),bOr_nat (by omega) (by omega)]
  · exact Nat.or_lt_two_pow (by rw [Nat.pow_succ]; omega) (by rw [Nat.pow_succ]; have:0 < 2 ^ i:=Nat.pow_pos (by omega); omega)
theorem part_mono {m:Manifest} {i j:Nat} {x:Build} (hp:M.Part m i x) (h:i≤j):M.Part m j x:=by
  obtain ⟨n,h3,h4⟩:=hp.h
  exact ⟨hp.b,hp.l,n,h3,Nat.lt_of_lt_of_le h4 (Nat.pow_le_pow_right (by omega) h)⟩
theorem part_in {m:Manifest} {i:Nat} {x:Build} (hp:M.Part m i x) (hi:i≤40):M.setOk x.fHave=true∧M.inSet x.fHave i=false:=by
  obtain ⟨n,h3,h4⟩:=hp.h
  have h5:(2:Nat) ^ i≤2 ^ 40:=Nat.pow_le_pow_right (by omega) hi
  constructor
  · rw [h3]; unfold M.setOk M.within; simp; omega
  · unfold M.inSet
    rw [h3,Int.toNat_natCast,Int.toNat_natCast,Nat.testBit_lt_two_pow h4,Bool.and_false]
theorem cut_old {old:List Int} (hl:old.length≤1048576) {p:Int} {n:Nat} (h0:0≤p) (h:p.toNat+n≤old.length):chk (sliceOK p (bAdd .i64 p (n:Int)) old.length)=some ()∧(old.take (Int.toNat (bAdd .i64 p (n:Int)))).drop (Int.toNat p)=M.win old p.toNat n:=by
  obtain ⟨q,rfl⟩:∃ q:Nat,p=q:=⟨p.toNat,by omega⟩
  simp only [Int.toNat_natCast] at h ⊢
  rw [bAdd_nat (by omega),sliceOK_nat (by omega) (by omega)]
  exact ⟨rfl,rfl⟩
theorem from_impl {u:Nat} (hu:1099511627776≤u) {m:Manifest} (hm:M.manOk m=true) {old:List Int} (ho:M.isBytes old) (hl:old.length≤1048576):∀ (n i:Nat) (x:Build),i+n=m.fSums.length→M.Part m i x →
    walk (impl_BuildFrom_l2_f u old m) (impl_BuildFrom_l2_b u old m) n i (x.fHave,x.fBuf)=some (M.fromS m old n i x):=by
  have h40:=manOk_len hm
  intro n
  induction n with
  | zero=>intro i x _ hp; exact rfl
  | succ n ih =>
    intro i x h hp
    obtain ⟨e1,e2,e3⟩:=span_nat (b:=x.fBuf) hp.l i
    obtain ⟨f1,f2⟩:=part_in hp (by omega)
    simp only [walk,M.fromS,impl_BuildFrom_l2_b,impl_BuildFrom_j3]
    rw [impl_PlaceOf_eq hu ho (by omega) (by omega),impl_SpanOf_eq]
    simp only [Option.bind_some]
    by_cases hq:0≤M.placeOf old m i
    · obtain ⟨s,g1,g2,g3,g4⟩:=placeOf_ge hq
      have hq':decide (M.placeOf old m i≥0)=true:=by simpa using hq
      rw [e2]
      obtain ⟨c1,c2⟩:=cut_old hl hq g4
      have hb:=isBytes_win ho (M.placeOf old m i).toNat (M.ln m i)
      have hbl:(M.win old (M.placeOf old m i).toNat (M.ln m i)).length=M.ln m i:=win_length g4
      have hput:=part_put hp (by omega) hb hbl
      have k1:=ih (i+1) _ (by omega) hput
      rw [if_pos hq]
      simp only [hq',cond_true,c1,c2,Option.bind_some,impl_put_eq u hp.l i (Nat.le_of_eq hbl) hp.b.l]
      exact k1
    · have hq':decide (M.placeOf old m i≥0)=false:=by simpa using hq
      have k1:=ih (i+1) x (by omega) (part_mono hp (by omega))
      rw [if_neg hq]
      simp only [hq',cond_false]
      exact k1
theorem part_new {m:Manifest} (hm:M.manOk m=true):M.Part m 0 (M.buildNew m):=by
  have:=manOk_lenb hm
  unfold M.buildNew
  rw [if_pos hm]
  exact ⟨⟨by simp [M.isBytes],by simp; omega⟩,by simp; omega,0,rfl,by simp⟩
theorem impl_BuildFrom_eq {u:Nat} (hu:1099511627776≤u) {m:Manifest} (hs:m.fSums.length≤1048576) {old:List Int} (ho:M.isBytes old) (hl:old.length≤1048576):impl_BuildFrom u m old=some (M.buildFrom m old):=by
  unfold impl_BuildFrom M.buildFrom
  simp only [impl_BuildNew_eq hu hs,impl_ManOk_eq hu m (show m.fSums.length≤1073741824 by omega),Option.bind_some]
  cases hm:M.manOk m with
  | false=>simp [M.buildNew,hm]
  | true =>
    simp only [Bool.not_true,cond_false,↓reduceIte]
    rw [impl_BuildFrom_l2_w u old m ((M.buildNew m).fHave,(M.buildNew m).fBuf) u (by omega) (by omega),Int.toNat_natCast]
    exact from_impl hu hm ho hl m.fSums.length 0 _ (by omega) (part_new hm)
def M.add (d:Disk) (p:Put):Disk×Bool:=if M.diskOk (M.addPut d p) then (M.addPut d p,true) else (d,false)
def M.putBytes (d:Disk) (slot at_:Int) (b:List Int):Disk×Bool:=if M.within slot 0 1 then M.add d ⟨slot,at_,b,⟨0,0,0⟩⟩ else (d,false)
def M.putRecord (d:Disk) (r:Record):Disk×Bool:=M.add d ⟨2,0,[],r⟩
def M.spare (d:Disk):Int:=bSub .i64 1 d.fR.fSlot
theorem add_or (d:Disk) (p:Put):(M.add d p=(M.addPut d p,true)∧M.diskOk (M.addPut d p)=true)∨M.add d p=(d,false):=by
  unfold M.add
  cases h:M.diskOk (M.addPut d p) with
  | true=>exact .inl ⟨rfl,rfl⟩
  | false=>exact .inr rfl
theorem impl_PutBytes_eq {u:Nat} (hu:1099511627776≤u) {d:Disk} (hd:M.DOk d) (hl:d.fP.length≤1048575) (s a:Int) {b:List Int} (hb:b.length≤1048576):impl_PutBytes u d s a b=some (M.putBytes d s a b):=by
  unfold impl_PutBytes M.putBytes M.add
  rw [impl_isSlot_eq,impl_with_eq hu hd hl (p:=⟨s,a,b,⟨0,0,0⟩⟩) hb,impl_copyDisk_eq hu hd]
  simp only [Option.bind_some]
  cases M.within s 0 1 <;> rfl
theorem impl_PutRecord_eq {u:Nat} (hu:1099511627776≤u) {d:Disk} (hd:M.DOk d) (hl:d.fP.length≤1048575) (r:Record):impl_PutRecord u d r=some (M.putRecord d r):=by
  unfold impl_PutRecord M.putRecord M.add
  rw [impl_with_eq hu hd hl (p:=⟨2,0,[],r⟩) (by simp)]
  rfl
theorem impl_Spare_eq (u:Nat) (d:Disk):impl_Spare u d=some (M.spare d):=rfl
def M.stageFrom (d0:Disk) (b:List Int) (size:Int):Nat→Nat→Disk→Disk×Bool
  | 0,_,d=>(d,true)
  | n+1,i,d=>if (M.putBytes d (M.spare d0) ((i:Int)*size) (M.blockAt b size i).1).2 then M.stageFrom d0 b size n (i+1) (M.putBytes d (M.spare d0) ((i:Int)*size) (M.blockAt b size i).1).1 else (d0,false)
def M.stageAll (d:Disk) (b:List Int) (size:Int):Disk×Bool :=
  if M.diskOk d && decide (d.fP.length=0) && M.sizeOk size b.length then M.stageFrom d b size (M.blocks size b.length).toNat 0 d else (d,false)
theorem diskOk_p {d:Disk} (h:M.diskOk d=true):d.fP.length≤200:=by
  unfold M.diskOk at h
  simp only [Bool.and_eq_true,decide_eq_true_eq] at h
  exact h.1.2
theorem putBytes_or (d:Disk) (s a:Int) (b:List Int):(M.putBytes d s a b=(M.addPut d ⟨s,a,b,⟨0,0,0⟩⟩,true)∧M.diskOk (M.addPut d ⟨s,a,b,⟨0,0,0⟩⟩)=true)∨M.putBytes d s a b=(d,false):=by
  unfold M.putBytes
  split
  · exact add_or d _
  · exact .inr rfl
theorem putBytes_dok {d:Disk} (hd:M.DOk d) (hl:d.fP.length≤200) (s a:Int) {b:List Int} (hb:b.length≤1048576):M.DOk (M.putBytes d s a b).1∧(M.putBytes d s a b).1.fP.length≤200:=by
  rcases putBytes_or d s a b with ⟨h1,h2⟩ | h1
  · rw [h1]
    exact ⟨addPut_ok hd (by omega) hb,diskOk_p h2⟩
  · rw [h1]; exact ⟨hd,hl⟩
theorem blockAt_len (b:List Int) (size i:Int):(M.blockAt b size i).1.length≤b.length:=by
  unfold M.blockAt
  dsimp only
  split
  · simp
  · unfold M.win; simp; omega
theorem stage_impl {u:Nat} (hu:1099511627776≤u) {d0:Disk} (h0:M.DOk d0) {b:List Int} (hb:b.length≤1048576) {size:Int}:∀ (n i f:Nat) (d:Disk),i+n=(M.blocks size b.length).toNat→n < f→M.DOk d→d.fP.length≤200 →
    impl_StageAll_l3 u f b size (M.blocks size b.length) i d.fA d.fB d.fR.fGen d.fR.fSlot d.fR.fLen d.fP d0=some (M.stageFrom d0 b size n i d):=by
  have hr:=blocks_range size b.length
  intro n
  induction n with
  | zero =>
    intro i f d h hf hd hl
    obtain ⟨f,rfl⟩:∃ j,f=j+1:=⟨f - 1,by omega⟩
    have e:decide ((i:Int) < M.blocks size b.length)=false:=by simp; omega
    unfold impl_StageAll_l3
    simp only [e,cond_false]
    exact rfl
  | succ n ih =>
    intro i f d h hf hd hl
    obtain ⟨f,rfl⟩:∃ j,f=j+1:=⟨f - 1,by omega⟩
    have e:decide ((i:Int) < M.blocks size b.length)=true:=by simp; omega
    have hw:M.within (i:Int) 0 (M.blocks size b.length - 1)=true:=by unfold M.within; simp; omega
    obtain ⟨k1,k2,k3⟩:=blocks_ok hw
    have k4:=sizeOk_t k1
    have k5:=mul_range (s:=size) (i:=i) (by omega) (by omega) k2 k3
    have e1:(M.spanOf size b.length i).1=(i:Int)*size:=by unfold M.spanOf; rw [if_pos hw]
    have hbl:=blockAt_len b size i
    have hde:Disk.mk d.fA d.fB (Record.mk d.fR.fGen d.fR.fSlot d.fR.fLen) d.fP=d:=rfl
    unfold impl_StageAll_l3 M.stageFrom
    rw [impl_BlockAt_eq u (by omega),impl_Spare_eq]
    simp only [Option.bind_some,e,cond_true,hde]
    rw [bMul_i64 (by omega) (by omega),impl_PutBytes_eq hu hd (by omega) _ _ (by omega),impl_copyDisk_eq hu h0]
    simp only [Option.bind_some]
    obtain ⟨g1,g2⟩:=putBytes_dok hd hl (M.spare d0) ((i:Int)*size) (b:=(M.blockAt b size i).1) (by omega)
    have m1:=ih (i+1) f _ (by omega) (by omega) g1 g2
    rw [bAdd_succ (by omega)]
    cases (M.putBytes d (M.spare d0) ((i:Int)*size) (M.blockAt b size i).1).2 with
    | true=>exact m1
    | false=>exact rfl
theorem impl_StageAll_eq {u:Nat} (hu:1099511627776≤u) {d:Disk} (hd:M.DOk d) {b:List Int} (hb:b.length≤1048576) (size:Int):impl_StageAll u d b size=some (M.stageAll d b size):=by
  have hr:=blocks_range size b.length
  unfold impl_StageAll impl_StageAll_j1 M.stageAll
  simp only [impl_copyDisk_eq hu hd,impl_DiskOk_eq hu hd,impl_SizeOk_eq,impl_Blocks_eq,Option.bind_some]
  cases M.diskOk d with
  | false=>rfl
  | true =>
    by_cases hp:d.fP.length=0
    · have e:decide ((d.fP.length:Int) > 0)=false:=decide_eq_false (by omega)
      simp only [e,hp,decide_true,Bool.not_true,cond_false,Bool.true_and,Bool.and_self]
      cases M.sizeOk size b.length with
      | false=>rfl
      | true=>exact stage_impl hu hd hb (size:=size) (M.blocks size b.length).toNat 0 u d (by omega) (by omega) hd (by omega)
    · have e:decide ((d.fP.length:Int) > 0)=true:=by simp; omega
      simp only [e,hp,cond_true,Bool.not_true,cond_false,decide_false,Bool.and_false,Bool.false_and,Bool.false_eq_true,↓reduceIte]
theorem stageFrom_dok {d0:Disk} (h0:M.DOk d0) (hp:d0.fP.length≤200) {b:List Int} (hb:b.length≤1048576) {size:Int}:∀ (n i:Nat) (d:Disk),M.DOk d→d.fP.length≤200→M.DOk (M.stageFrom d0 b size n i d).1∧(M.stageFrom d0 b size n i d).1.fP.length≤200
  | 0,i,d,hd,hl=>⟨hd,hl⟩
  | n+1,i,d,hd,hl=>by
    unfold M.stageFrom
    have hbl:=blockAt_len b size i
    obtain ⟨g1,g2⟩:=putBytes_dok hd hl (M.spare d0) ((i:Int)*size) (b:=(M.blockAt b size i).1) (by omega)
    split
    · exact stageFrom_dok h0 hp hb n (i+1) _ g1 g2
    · exact ⟨h0,hp⟩
def M.nextCommit (d:Disk) (m:Manifest) (x:Build) (ph:Int):Disk×Int :=
  if ph=1 then (if M.whole m x && (M.stageAll d x.fBuf m.fSize).2 then ((M.stageAll d x.fBuf m.fSize).1,2) else (d,ph))
  else if ph=2 then (M.sure d,3)
  else if ph=3 then (if (M.putRecord d ⟨m.fGen,M.spare d,m.fLen⟩).2 then ((M.putRecord d ⟨m.fGen,M.spare d,m.fLen⟩).1,4) else (d,ph))
  else if ph=4 then (M.sure d,5)
  else (d,ph)
theorem phases {α:Type} (ph:Int) (a b c e f:α):(bif ph == 1 then a else bif ph == 2 then b else bif ph == 3 then c else bif ph == 4 then e else f)=if ph=1 then a else if ph=2 then b else if ph=3 then c else if ph=4 then e else f:=by
  by_cases h1:ph=1
  · simp [h1]
  · by_cases h2:ph=2
    · simp [h2]
    · by_cases h3:ph=3
      · simp [h3]
      · by_cases h4:ph=4
        · simp [h4]
        · have e1:(ph == 1)=false:=by simpa using h1
          have e2:(ph == 2)=false:=by simpa using h2
          have e3:(ph == 3)=false:=by simpa using h3
          have e4:(ph == 4)=false:=by simpa using h4
          simp [e1,e2,e3,e4,h1,h2,h3,h4]
theorem some_if {α:Type} (p:Prop) [Decidable p] (a b:α):(if p then some a else some b)=some (if p then a else b):=by split <;> rfl
theorem step1' (w s:Bool) (a b c:Disk×Int) (hb:b=c):(bif !w then some c else (bif s then some a else some b))=some (if (w && s)=true then a else c):=by subst hb; cases w <;> cases s <;> rfl
theorem step3 (s:Bool) (a b:Disk×Int):(bif s then some a else some b)=some (if s=true then a else b):=by cases s <;> rfl
theorem impl_NextCommit_eq {u:Nat} (hu:1099511627776≤u) {d:Disk} (hd:M.DOk d) (hl:d.fP.length≤1048575) {m:Manifest} (hm:m.fSums.length≤1048576) {x:Build} (hx:M.BldWf x) (ph:Int):impl_NextCommit u d m x ph=some (M.nextCommit d m x ph):=by
  unfold impl_NextCommit impl_NextCommit_j1 M.nextCommit
  simp only [impl_Whole_eq hu hm hx,impl_StageAll_eq hu hd hx.l,impl_Sure_eq hu hd,impl_Spare_eq,impl_PutRecord_eq hu hd hl,impl_copyDisk_eq hu hd,Option.bind_some,phases]
  rw [step1' _ _ _ _ _ rfl,step3,some_if,some_if,some_if,some_if]
theorem nextCommit_dok {d:Disk} (hd:M.DOk d) (hl:d.fP.length≤200) {m:Manifest} {x:Build} (hx:M.BldWf x) (ph:Int):M.DOk (M.nextCommit d m x ph).1∧(M.nextCommit d m x ph).1.fP.length≤200:=by
  have hs:M.DOk (M.sure d)∧(M.sure d).fP.length≤200:=by
    refine ⟨sure_ok hd,?_⟩
    unfold M.sure
    split
    · rw [lays_nil]; simp
    · exact hl
  have hst:M.DOk (M.stageAll d x.fBuf m.fSize).1∧(M.stageAll d x.fBuf m.fSize).1.fP.length≤200:=by
    unfold M.stageAll
    split
    · exact stageFrom_dok hd hl hx.l _ _ _ hd hl
    · exact ⟨hd,hl⟩
  have hr:M.DOk (M.putRecord d ⟨m.fGen,M.spare d,m.fLen⟩).1∧(M.putRecord d ⟨m.fGen,M.spare d,m.fLen⟩).1.fP.length≤200:=by
    unfold M.putRecord
    rcases add_or d ⟨2,0,[],⟨m.fGen,M.spare d,m.fLen⟩⟩ with ⟨h1,h2⟩ | h1
    · rw [h1]; exact ⟨addPut_ok hd (by omega) (by simp),diskOk_p h2⟩
    · rw [h1]; exact ⟨hd,hl⟩
  unfold M.nextCommit
  split
  · split
    · exact hst
    · exact ⟨hd,hl⟩
  · split
    · exact hs
    · split
      · split
        · exact hr
        · exact ⟨hd,hl⟩
      · split
        · exact hs
        · exact ⟨hd,hl⟩
structure M.DB (d:Disk):Prop where
  a:M.isBytes d.fA
  b:M.isBytes d.fB
  p:∀ x∈d.fP,M.isBytes x.fB
theorem lay_bytes {b p:List Int} (hb:M.isBytes b) (hp:M.isBytes p) (a:Nat):M.isBytes (M.lay b a p):=by
  unfold M.lay
  have hx:M.isBytes (b++List.replicate (a+p.length - b.length) 0):=isBytes_app hb (fun x hx=>by have:=List.eq_of_mem_replicate hx; omega)
  exact (overL_bytes (by simp; omega) hx hp).1
theorem addPut_db {d:Disk} (hd:M.DB d) {p:Put} (hp:M.isBytes p.fB):M.DB (M.addPut d p):=⟨hd.a,hd.b,fun x hx=>by
  simp only [M.addPut,List.mem_append,List.mem_singleton] at hx
  rcases hx with hx | rfl
  · exact hd.p x hx
  · exact hp⟩
theorem putBytes_db {d:Disk} (hd:M.DB d) (s a:Int) {b:List Int} (hb:M.isBytes b):M.DB (M.putBytes d s a b).1:=by
  rcases putBytes_or d s a b with ⟨h1,_⟩ | h1
  · rw [h1]; exact addPut_db hd hb
  · rw [h1]; exact hd
theorem stageFrom_db {d0:Disk} (h0:M.DB d0) {b:List Int} (hb:M.isBytes b) {size:Int}:∀ (n i:Nat) (d:Disk),M.DB d→M.DB (M.stageFrom d0 b size n i d).1
  | 0,i,d,hd=>hd
  | n+1,i,d,hd=>by
    unfold M.stageFrom
    split
    · exact stageFrom_db h0 hb n (i+1) _ (putBytes_db hd _ _ (blockAt_bytes hb size i).1)
    · exact h0
theorem onePut_db {d:Disk} (hd:M.DB d) {p:Put} (hp:M.isBytes p.fB):M.DB (M.onePut d p):=by
  unfold M.onePut
  split
  · exact ⟨hd.a,hd.b,hd.p⟩
  · split
    · exact ⟨lay_bytes hd.a hp _,hd.b,hd.p⟩
    · exact ⟨hd.a,lay_bytes hd.b hp _,hd.p⟩
theorem lays_db:∀ (l:List Put) (d:Disk),(∀ p∈l,M.isBytes p.fB)→M.DB d→M.DB (M.lays l d)
  | [],d,_,hd=>⟨hd.a,hd.b,by simp [M.lays]⟩
  | p :: l,d,hp,hd=>lays_db l _ (fun q hq=>hp q (by simp [hq])) (onePut_db hd (hp p (by simp)))
theorem sure_db {d:Disk} (hd:M.DB d):M.DB (M.sure d):=by
  unfold M.sure
  split
  · exact lays_db _ _ hd.p hd
  · exact hd
theorem nextCommit_db {d:Disk} (hd:M.DB d) {m:Manifest} {x:Build} (hx:M.BldWf x) (ph:Int):M.DB (M.nextCommit d m x ph).1:=by
  have hst:M.DB (M.stageAll d x.fBuf m.fSize).1:=by
    unfold M.stageAll
    split
    · exact stageFrom_db hd hx.b _ _ _ hd
    · exact hd
  have hr:M.DB (M.putRecord d ⟨m.fGen,M.spare d,m.fLen⟩).1:=by
    unfold M.putRecord
    rcases add_or d ⟨2,0,[],⟨m.fGen,M.spare d,m.fLen⟩⟩ with ⟨h1,h2⟩ | h1
    · rw [h1]; exact addPut_db hd nil_bytes
    · rw [h1]; exact hd
  unfold M.nextCommit
  split
  · split
    · exact hst
    · exact hd
  · split
    · exact sure_db hd
    · split
      · split
        · exact hr
        · exact hd
      · split
        · exact sure_db hd
        · exact hd
structure M.DiskIn (d:Disk):Prop where
  o:M.DOk d
  b:M.DB d
  l:d.fP.length≤200
theorem bytesR_valS:∀ (n:Nat) (b:List Int),M.isBytes b→b.length≤n→M.bytesR n (M.valS b 1)=some b:=by
  intro n
  induction n with
  | zero =>
    intro b _ hl
    have:b=[]:=List.eq_nil_of_length_eq_zero (by omega)
    subst this
    rfl
  | succ n ih =>
    intro b hb hl
    rcases List.eq_nil_or_concat b with rfl | ⟨c,x,hbx⟩
    · rfl
    · rw [List.concat_eq_append] at hbx
      subst hbx
      have hx:=hb x (by simp)
      have hc:M.isBytes c:=fun z hz=>hb z (by simp [hz])
      have h1:=valS_low c 1 0 hc (by simp)
      have hp:(0:Int) < 256 ^ (0+c.length):=Int.pow_pos (by omega)
      have e:M.valS (c++[x]) 1=256*M.valS c 1+x:=by rw [valS_app]; rfl
      unfold M.bytesR
      rw [e,if_neg (by omega),if_neg (by omega),show (256*M.valS c 1+x) / 256=M.valS c 1 by omega,show (256*M.valS c 1+x) % 256=x by omega,ih c hc (by simp at hl; omega)]
      rfl
theorem bytesOf_valS {b:List Int} (hb:M.isBytes b) (hl:b.length≤6):M.bytesOf (M.valS b 1)=(b,true):=by
  have h1:=valS_low b 1 0 hb (by simp)
  have hp:(0:Int) < 256 ^ (0+b.length):=Int.pow_pos (by omega)
  unfold M.bytesOf
  rw [if_neg (by omega),bytesR_valS 6 b hb hl]
theorem sumOf_inj {a b:List Int} (ha:M.isBytes a) (hb:M.isBytes b) (la:a.length≤6) (lb:b.length≤6) (h:M.sumOf a=M.sumOf b):a=b:=by
  unfold M.sumOf at h
  rw [if_neg (by omega),if_neg (by omega)] at h
  have h2:M.valS a 1=M.valS b 1:=congrArg Sum.fS h
  have h3:=bytesOf_valS ha la
  rw [h2,bytesOf_valS hb lb] at h3
  exact (congrArg Prod.fst h3).symm
theorem spanOf_in {size n i:Int} (h:M.within i 0 (M.blocks size n - 1)=true):(M.spanOf size n i).1=i*size∧1≤(M.spanOf size n i).2:=by
  have ⟨h1,h2,h3⟩:=blocks_ok h
  have h4:=sizeOk_t h1
  have h5:=(within_t h).2
  unfold M.spanOf
  rw [if_pos h]
  unfold M.blocks at h5
  rw [if_pos h1] at h5
  have h8:i+1≤(n+size - 1) / size:=by omega
  have h9:(i+1)*size≤n+size - 1:=(Int.le_ediv_iff_mul_le (by omega)).1 h8
  rw [Int.add_mul] at h9
  refine ⟨rfl,?_⟩
  dsimp only
  omega
theorem blockAt_in {b:List Int} {size i:Int} (h:M.within i 0 (M.blocks size b.length - 1)=true):((M.blockAt b size i).1.length:Int)=(M.spanOf size b.length i).2∧(M.blockAt b size i).1=M.win b (M.spanOf size b.length i).1.toNat (M.spanOf size b.length i).2.toNat:=by
  have h1:=spanOf_in h
  have h2:=spanOf_range (size:=size) (n:=b.length) (i:=i) (by omega)
  unfold M.blockAt
  dsimp only
  rw [if_neg (by omega)]
  refine ⟨?_,rfl⟩
  unfold M.win
  simp
  omega
theorem sumFit_block {b:List Int} (hb:M.isBytes b) {size:Int} {i:Nat} (h:M.within (i:Int) 0 (M.blocks size b.length - 1)=true):M.sumFit size b.length i (M.sumOf (M.blockAt b size i).1)=true:=by
  have h1:=blockAt_in h
  have h2:=blockAt_bytes hb size i
  unfold M.sumFit M.sumOf
  rw [if_neg (by omega)]
  simp only [bytesOf_valS h2.1 h2.2,h1.1]
  simp
theorem sumsFit_range {b:List Int} (hb:M.isBytes b) {size:Int}:∀ (n i:Nat),((i+n:Nat):Int)≤M.blocks size b.length→M.sumsFit size b.length ((List.range' i n).map fun (i:Nat)=>M.sumOf (M.blockAt b size i).1) i=true
  | 0,i,_=>rfl
  | n+1,i,h=>by
    have hw:M.within (i:Int) 0 (M.blocks size b.length - 1)=true:=by unfold M.within; simp; omega
    simp only [List.range'_succ,List.map_cons,M.sumsFit]
    rw [sumFit_block hb hw,Bool.true_and]
    exact sumsFit_range hb n (i+1) (by omega)
theorem manOk_manOf (g:Int) {b:List Int} (hb:M.isBytes b) (size:Int):M.manOk (M.manOf g b size)=true:=by
  unfold M.manOf
  cases h1:M.within g 1 1000000 with
  | false=>rfl
  | true =>
    cases h2:M.sizeOk size b.length with
    | false=>rfl
    | true =>
      have hg:=within_t h1
      have hr:=blocks_range size b.length
      simp only [Bool.and_self,if_true]
      unfold M.manOk
      simp only
      rw [if_neg (by omega),h1,h2]
      simp only [Bool.true_and,Bool.and_eq_true,beq_iff_eq]
      unfold M.sumsOf
      refine ⟨by simp; omega,?_⟩
      rw [List.range_eq_range']
      exact sumsFit_range hb _ 0 (by omega)
theorem same_self {α:Type} {f:α→α→Bool} (hf:∀ x,f x x=true) (l:List α):M.same f l l=true:=by
  unfold M.same
  have:M.all2 f l l=true:=by
    induction l with
    | nil=>rfl
    | cons x l ih=>simp [M.all2,hf,ih]
  simp [this]
theorem tells_manOf {g size:Int} {b:List Int} (h:M.sizeOk size b.length=true) (hg:M.within g 1 1000000=true):M.tells (M.manOf g b size) b=true:=by
  unfold M.tells M.manOf
  rw [hg,h]
  simp [same_self]
def Ev {β:Type} (r:Option β) (p:β→Prop):Prop:=∃ v,r=some v∧p v
theorem Ev_bind {β γ:Type} {r:Option β} {p:β→Prop} {f:β→Option γ} {q:γ→Prop} (h:Ev r p) (hf:∀ v,p v→Ev (f v) q):Ev (r.bind f) q:=by
  obtain ⟨v,e,h1⟩:=h
  rw [e]
  exact hf v h1
theorem Ev_some {β:Type} {v:β} {p:β→Prop} (h:p v):Ev (some v) p:=⟨v,rfl,h⟩
theorem Ev_eq {β:Type} {r:Option β} {v:β} {p:β→Prop} (e:r=some v) (h:p v):Ev r p:=⟨v,e,h⟩
theorem Dr_ev {α:Type} {r:Option (α×l1Cur)} {p:α→Prop} (h:Dr r p):Ev r fun v=>p v.1∧Cu v.2:=by
  obtain ⟨v,c,e,h1,h2⟩:=h
  exact ⟨_,e,h1,h2⟩
theorem Ev_below (u:Nat) {c:l1Cur} (hc:Cu c) (n:Int):Ev (spec_l1Below u c n) fun v=>(0≤v.1∧(0 < n→v.1 < n))∧Cu v.2:=Dr_ev (l1Below_dr u hc n)
theorem Ev_img {u:Nat} (hu:1099511627776≤u) {c:l1Cur} (hc:Cu c):Ev (spec_l6Image u c) fun v=>M.img 16 v.1∧Cu v.2:=Dr_ev (l6Image_dr hu hc)
theorem Ev_old {u:Nat} (hu:1099511627776≤u) {c:l1Cur} (hc:Cu c) {b:List Int} (hb:M.img 200 b):Ev (spec_l7Old u c b) fun v=>M.img 240 v.1∧Cu v.2:=Dr_ev (l7Old_dr2 hu hc hb.1 hb.2)
theorem img_mono {n m:Nat} {b:List Int} (h:M.img n b) (hn:n≤m):M.img m b:=⟨Nat.le_trans h.1 hn,h.2⟩
theorem nextCommit_in {d:Disk} (hd:M.DiskIn d) {m:Manifest} {x:Build} (hx:M.BldWf x) (ph:Int):M.DiskIn (M.nextCommit d m x ph).1:=by
  have h:=nextCommit_dok hd.o hd.l (m:=m) hx ph
  exact ⟨h.1,nextCommit_db hd.b hx ph,h.2⟩
theorem Ev_new {u:Nat} (hu:1099511627776≤u) {code:List Int} (h:code.length≤1048576):Ev (spec_l1New u code) Cu:=by
  obtain ⟨c,e,hc⟩:=l1New_eq hu h
  exact Ev_eq e hc
def M.commitL (m:Manifest) (x:Build):Nat→Disk→Int→Disk
  | 0,d,_=>d
  | n+1,d,ph=>M.commitL m x n (M.nextCommit d m x ph).1 (M.nextCommit d m x ph).2
def M.man (g:Int) (b:List Int) (size:Int):Manifest:=⟨g,size,b.length,M.sumsOf b size⟩
theorem manOf_man {g:Int} {b:List Int} {size:Int} (hs:M.sizeOk size b.length=true) (hg:M.within g 1 1000000=true):M.manOf g b size=M.man g b size:=by
  unfold M.manOf M.man
  rw [hs,hg]; rfl
structure M.Blk (b:List Int) (size:Int) (z i:Nat):Prop where
  z2:2≤z∧z≤6
  w:M.within (i:Int) 0 (M.blocks size b.length - 1)=true
  s:M.spanOf size b.length (i:Int)=(((i*z:Nat):Int),((min z (b.length - i*z):Nat):Int))
  p:i*z < b.length
theorem blk_of {b:List Int} {size:Int} (hs:M.sizeOk size b.length=true) {i:Nat} (hi:i < (M.blocks size b.length).toNat):M.Blk b size size.toNat i:=by
  have h1:=sizeOk_t hs
  have hw:M.within (i:Int) 0 (M.blocks size b.length - 1)=true:=by unfold M.within; simp; omega
  obtain ⟨z,rfl⟩:∃ z:Nat,size=z:=⟨size.toNat,by omega⟩
  have h2:=spanOf_in hw
  have h3:=spanOf_range (size:=(z:Int)) (n:=b.length) (i:=i) (by omega)
  have e:M.spanOf (z:Int) b.length i=((i:Int)*z,min (z:Int) (b.length - (i:Int)*z)):=by unfold M.spanOf; rw [if_pos hw]
  rw [Int.toNat_natCast]
  have hlt:i*z < b.length:=by
    have h5:=h2.1
    have h6:=h3.2.2.2
    have h7:=h2.2
    rw [h5] at h6
    have:((i*z:Nat):Int)=(i:Int)*z:=by simp
    omega
  refine ⟨by omega,hw,?_,hlt⟩
  rw [e]
  have h8:(i:Int)*z=((i*z:Nat):Int):=by simp
  rw [h8]
  congr 1
  omega
theorem blk_at {b:List Int} {size g:Int} {z i:Nat} (h:M.Blk b size z i):M.at_ (M.man g b size) i=i*z∧M.ln (M.man g b size) i=min z (b.length - i*z):=by
  unfold M.at_ M.ln
  show (M.spanOf size b.length i).1.toNat=_∧(M.spanOf size b.length i).2.toNat=_
  rw [h.s]
  exact ⟨Int.toNat_natCast _,Int.toNat_natCast _⟩
theorem blk_win {b:List Int} {size:Int} {z i:Nat} (h:M.Blk b size z i):(M.blockAt b size i).1=M.win b (i*z) (min z (b.length - i*z)):=by
  have h1:=(blockAt_in h.w).2
  rw [h.s] at h1
  rw [h1]
  simp only [Int.toNat_natCast]
theorem sums_get {b:List Int} {size g:Int} {i:Nat} (hi:i < (M.blocks size b.length).toNat):(M.man g b size).fSums[i]?=some (M.sumOf (M.blockAt b size i).1):=by
  show (M.sumsOf b size)[i]?=_
  unfold M.sumsOf
  rw [List.getElem?_map,List.getElem?_range hi]; rfl
theorem sums_len (g:Int) (b:List Int) (size:Int):(M.man g b size).fSums.length=(M.blocks size b.length).toNat:=by
  show (M.sumsOf b size).length=_
  unfold M.sumsOf
  simp
theorem place_self {b:List Int} {size g:Int} {z i:Nat} (h:M.Blk b size z i) (hi:i < (M.blocks size b.length).toNat):0≤M.placeOf b (M.man g b size) i:=by
  unfold M.placeOf
  rw [sums_get hi]
  show 0≤M.findSum b _ (M.spanOf size b.length i).2
  rw [h.s]
  have hp:=h.p
  have hz:=h.z2
  unfold M.findSum
  have hn:M.within ((min z (b.length - i*z):Nat):Int) 1 6=true:=by simp [M.within]; omega
  simp only
  rw [if_pos hn,Int.toNat_natCast]
  refine findFrom_some _ 0 (i*z) (Nat.zero_le _) (by omega) ?_
  rw [blk_win h]
theorem place_win {b:List Int} (hb:M.isBytes b) {size g:Int} {z i:Nat} (h:M.Blk b size z i) (hi:i < (M.blocks size b.length).toNat):M.win b (M.placeOf b (M.man g b size) i).toNat (M.ln (M.man g b size) i)=M.win b (i*z) (min z (b.length - i*z)):=by
  obtain ⟨s,h1,_,h2,h3⟩:=placeOf_ge (place_self (g:=g) h hi)
  rw [sums_get hi] at h1
  cases h1
  have hz:=h.z2
  rw [blk_win h] at h2
  rw [(blk_at h).2] at h2 h3 ⊢
  refine sumOf_inj (isBytes_win hb _ _) (isBytes_win hb _ _) ?_ ?_ h2
  · rw [win_length h3]; omega
  · rw [win_length (by have:=h.p; omega)]; omega
theorem pre_succ {b:List Int} {z i:Nat} (hp:i*z < b.length):b.take (i*z)++M.win b (i*z) (min z (b.length - i*z))=b.take ((i+1)*z):=by
  have e:b.take (i*z)=(b.take (i*z+min z (b.length - i*z))).take (i*z):=by rw [List.take_take]; congr 1; omega
  unfold M.win
  rw [e,List.take_append_drop,Nat.succ_mul]
  by_cases h:z≤b.length - i*z
  · rw [Nat.min_eq_left h]
  · rw [Nat.min_eq_right (by omega),List.take_of_length_le (by omega),List.take_of_length_le (by omega)]
theorem pre_len {b:List Int} {z i:Nat} (hp:i*z < b.length):(b.take ((i+1)*z)).length=i*z+min z (b.length - i*z):=by
  rw [List.length_take,Nat.succ_mul]; omega
theorem or_next {i:Nat}:(2 ^ i - 1) ||| 2 ^ i=2 ^ (i+1) - 1:=by
  apply Nat.eq_of_testBit_eq
  intro j
  rw [Nat.testBit_or,Nat.testBit_two_pow_sub_one,Nat.testBit_two_pow,Nat.testBit_two_pow_sub_one]
  by_cases h1:j < i <;> by_cases h2:i=j <;> simp [h1,h2] <;> omega
def M.half (b:List Int) (z i:Nat):Build:=⟨((2 ^ i - 1:Nat):Int),b.take (i*z)++List.replicate (b.length - (b.take (i*z)).length) 0⟩
theorem half_put {b:List Int} {size g:Int} {z i:Nat} (h:M.Blk b size z i) (hi:i≤39):M.put (M.man g b size) (M.half b z i) i (M.win b (i*z) (min z (b.length - i*z)))=M.half b z (i+1):=by
  have hp:=h.p
  have ha:=(blk_at (g:=g) h).1
  have h2:(2:Nat) ^ i≤2 ^ 39:=Nat.pow_le_pow_right (by omega) hi
  have h3:0 < (2:Nat) ^ i:=Nat.pow_pos (by omega)
  have hw:(M.win b (i*z) (min z (b.length - i*z))).length=min z (b.length - i*z):=win_length (by omega)
  have hl:(b.take (i*z)).length=i*z:=by rw [List.length_take]; omega
  unfold M.put M.half
  rw [ha]
  congr 1
  · rw [bShl1_nat (by omega),bOr_nat (by omega) (by omega),or_next]
  · rw [overL_eq (by rw [hw,List.length_append,hl,List.length_replicate]; omega),hw,pre_len hp,← pre_succ hp]
    congr 1
    · rw [List.take_append_of_le_length (by omega),List.take_of_length_le (by omega)]
    · rw [List.drop_append,List.drop_of_length_le (by omega),List.nil_append,List.drop_replicate]
      congr 1
      omega
theorem fromS_half {b:List Int} (hb:M.isBytes b) {size g:Int} (hs:M.sizeOk size b.length=true):∀ (n i:Nat),i+n=(M.blocks size b.length).toNat→M.fromS (M.man g b size) b n i (M.half b size.toNat i)=M.half b size.toNat (i+n)
  | 0,i,_=>rfl
  | n+1,i,h=>by
    have hi:i < (M.blocks size b.length).toNat:=by omega
    have hk:=blk_of hs hi
    have hr:=blocks_range size b.length
    unfold M.fromS
    rw [if_pos (place_self hk hi),place_win hb hk hi,half_put hk (by omega),fromS_half hb hs n (i+1) (by omega)]
    congr 1
    omega
theorem blocks_all {b:List Int} {size:Int} (hs:M.sizeOk size b.length=true):b.length≤(M.blocks size b.length).toNat*size.toNat:=by
  have h1:=sizeOk_t hs
  have h2:M.blocks size b.length=(b.length+size - 1) / size:=by unfold M.blocks; rw [if_pos hs]
  have h3:=blocks_range size b.length
  have h4:=Int.lt_ediv_add_one_mul_self ((b.length:Int)+size - 1) (show 0 < size by omega)
  rw [← h2,Int.add_mul] at h4
  have h5:(((M.blocks size b.length).toNat*size.toNat:Nat):Int)=M.blocks size b.length*size:=by
    rw [Int.natCast_mul,Int.toNat_of_nonneg h3.1,Int.toNat_of_nonneg (by omega)]
  omega
theorem buildFrom_self {b:List Int} (hb:M.isBytes b) {size g:Int} (hs:M.sizeOk size b.length=true) (hm:M.manOk (M.man g b size)=true):M.buildFrom (M.man g b size) b=⟨((2 ^ (M.blocks size b.length).toNat - 1:Nat):Int),b⟩:=by
  unfold M.buildFrom
  rw [if_pos hm,sums_len]
  have e:M.buildNew (M.man g b size)=M.half b size.toNat 0:=by
    unfold M.buildNew M.half
    rw [if_pos hm]
    simp [M.man]
  rw [e,fromS_half hb hs _ 0 (by omega),Nat.zero_add]
  unfold M.half
  rw [List.take_of_length_le (blocks_all hs)]
  simp
theorem andNot_self (x:Int):bAndNot .i64 x x=0:=by
  unfold bAndNot
  have e:BitVec.ofInt IntKind.i64.bits x &&& ~~~BitVec.ofInt IntKind.i64.bits x=0:=by
    show BitVec.ofInt 64 x &&& ~~~BitVec.ofInt 64 x=0
    apply BitVec.eq_of_getLsbD_eq
    intro i hi
    simp
  rw [e]
  rfl
theorem allI_of {α:Type} {f:α→Nat→Bool}:∀ (l:List α) (i:Nat),(∀ (j:Nat) (x:α),l[j]?=some x→f x (i+j)=true)→M.allI f l i=true
  | [],i,_=>rfl
  | x :: l,i,h=>by
    unfold M.allI
    rw [show f x i=true from h 0 x rfl,Bool.true_and]
    exact allI_of l (i+1) fun j y hj=>by
      have:=h (j+1) y (by simpa using hj)
      rwa [show i+1+j=i+(j+1) by omega]
theorem whole_self {b:List Int} (hb:M.isBytes b) {size g:Int} (hs:M.sizeOk size b.length=true) (hg:M.within g 1 1000000=true) (hm:M.manOk (M.man g b size)=true):M.whole (M.man g b size) ⟨((2 ^ (M.blocks size b.length).toNat - 1:Nat):Int),b⟩=true:=by
  have hr:=blocks_range size b.length
  have hn:(M.blocks size b.length).toNat≤40:=by omega
  have h2:(2:Nat) ^ (M.blocks size b.length).toNat≤2 ^ 40:=Nat.pow_le_pow_right (by omega) hn
  have hset:M.setOk ((2 ^ (M.blocks size b.length).toNat - 1:Nat):Int)=true:=by unfold M.setOk M.within; simp; omega
  have hfull:M.fullSet (M.man g b size).fSums.length=((2 ^ (M.blocks size b.length).toNat - 1:Nat):Int):=by rw [sums_len]; unfold M.fullSet; rw [if_pos hn]
  have hwo:M.without ((2 ^ (M.blocks size b.length).toNat - 1:Nat):Int) ((2 ^ (M.blocks size b.length).toNat - 1:Nat):Int)=0:=by
    unfold M.without
    rw [hset]
    exact andNot_self _
  have hg1:=within_t hg
  unfold M.whole M.missing M.buildOk
  rw [hm,hfull]
  simp only [hset,hwo,Bool.true_and,Bool.and_eq_true,beq_iff_eq,bne_iff_ne,ne_eq,and_true,true_and,decide_eq_true_eq]
  refine ⟨by show g≠0; omega,rfl,allI_of _ 0 fun i s hi=>?_⟩
  have hlt:i < (M.blocks size b.length).toNat:=by have:=(List.getElem?_eq_some_iff.1 hi).1; rw [sums_len] at this; exact this
  have hk:=blk_of hs hlt
  rw [sums_get hlt] at hi
  cases hi
  unfold M.pieceFit
  rw [Nat.zero_add,inSet_full hn hlt,if_pos rfl]
  unfold M.piece
  rw [(blk_at hk).1,(blk_at hk).2,blk_win hk]
  simp
theorem dk {a b:List Int} {r:Record} {p:List Put} (ha:a.length≤240) (hb:b.length≤240) (hr:M.recordOk r=true) (hs:r.fLen≤(M.slotOf ⟨a,b,r,p⟩ r.fSlot).length) (hp:p.length≤200) (hq:∀ x∈p,M.putOk x=true):M.diskOk ⟨a,b,r,p⟩=true:=by
  unfold M.diskOk
  simp only [Bool.and_eq_true,decide_eq_true_eq,List.all_eq_true]
  exact ⟨⟨⟨⟨⟨ha,hb⟩,hr⟩,hs⟩,hp⟩,hq⟩
structure M.K0 (old:List Int) (d:Disk):Prop where
  a:d.fA=old
  r:d.fR=⟨0,0,old.length⟩
  b:d.fB.length≤240
theorem rec0 {old:List Int} (h:old.length≤240):M.recordOk ⟨0,0,old.length⟩=true:=by
  unfold M.recordOk M.within
  simp
  omega
theorem k0_rec {old:List Int} (h:old.length≤240) {d:Disk} (hk:M.K0 old d) (hp:d.fP.length≤200) (hq:∀ x∈d.fP,M.putOk x=true):M.diskOk d=true∧M.recover d=(0,old):=by
  obtain ⟨a,b,r,p⟩:=d
  obtain ⟨h1,h2,h3⟩:=hk
  have h1:a=old:=h1
  have h2:r=⟨0,0,old.length⟩:=h2
  subst h1 h2
  have e:M.diskOk ⟨a,b,⟨0,0,a.length⟩,p⟩=true:=dk h h3 (rec0 h) (by simp [M.slotOf]) hp hq
  refine ⟨e,?_⟩
  unfold M.recover
  rw [e,if_pos rfl]
  simp [M.slotOf]
theorem holds_of {d:Disk} {g:Int} {b:List Int} (h:M.recover d=(g,b)):M.holds d g b=true:=by
  unfold M.holds M.sameBytes
  rw [h]
  simp
theorem holdsAny_0 {d:Disk} {a b:List Int} {g:Int} (h:M.recover d=(0,a)):M.holdsAny d a g b=true:=by
  unfold M.holdsAny
  rw [holds_of h]; rfl
theorem holdsAny_1 {d:Disk} {a b:List Int} {g:Int} (h:M.recover d=(g,b)):M.holdsAny d a g b=true:=by
  unfold M.holdsAny
  rw [holds_of h,Bool.or_true]
theorem holds_no {d:Disk} {g:Int} {a b:List Int} (h:M.recover d=(0,a)) (hg:g≠0):M.holds d g b=false:=by
  unfold M.holds
  rw [h]
  have:((0:Int) == g)=false:=by simp; omega
  rw [this]; rfl
theorem k0_put {old:List Int} {d:Disk} (hk:M.K0 old d) {p:Put} (h1:p.fWhat=1) (hp:M.putOk p=true):M.K0 old (M.onePut d p):=by
  have hw:p.fWhat≠2:=by omega
  have hw0:p.fWhat≠0:=by omega
  unfold M.onePut
  rw [if_neg hw,if_neg hw0]
  refine ⟨hk.a,hk.r,?_⟩
  have hb:=hk.b
  rcases putOk_cases hp with h | ⟨_,h3,h4⟩
  · omega
  · rw [lay_length]; omega
theorem k0_falls {old:List Int} (s:Int):∀ (l:List Put) (i:Nat) (d:Disk),M.K0 old d→(∀ p∈l,p.fWhat=1∧M.putOk p=true)→M.K0 old (M.falls s l i d)∧(M.falls s l i d).fP=[]
  | [],i,d,h,_=>⟨⟨h.a,h.r,h.b⟩,rfl⟩
  | p :: l,i,d,h,hp=>by
    unfold M.falls
    refine k0_falls s l (i+1) _ ?_ fun q hq=>hp q (by simp [hq])
    split
    · exact k0_put h (hp p (by simp)).1 (hp p (by simp)).2
    · exact h
theorem k0_safe {old b:List Int} (h:old.length≤240) {d:Disk} (hk:M.K0 old d) (hl:d.fP.length≤200) (hp:∀ p∈d.fP,p.fWhat=1∧M.putOk p=true):M.recover d=(0,old)∧M.safeFall d old 3 b=true∧∀ s,M.recover (M.fall d s)=(0,old):=by
  obtain ⟨h1,h2⟩:=k0_rec h hk hl fun x hx=>(hp x hx).2
  have hf:∀ s,M.recover (M.fall d s)=(0,old):=by
    intro s
    unfold M.fall
    rw [if_pos h1]
    obtain ⟨h3,h4⟩:=k0_falls s d.fP 0 d hk hp
    exact (k0_rec h h3 (by rw [h4]; simp) (by rw [h4]; simp)).2
  refine ⟨h2,?_,hf⟩
  unfold M.safeFall M.allFalls
  rw [holdsAny_0 h2,Bool.true_and,List.all_eq_true]
  intro x hx
  obtain ⟨k,_,rfl⟩:=List.mem_map.1 hx
  exact holdsAny_0 (hf k)
def M.bput (b:List Int) (z i:Nat):Put:=⟨1,((i*z:Nat):Int),M.win b (i*z) (min z (b.length - i*z)),⟨0,0,0⟩⟩
def M.bputs (b:List Int) (z i:Nat):List Put:=(List.range i).map (M.bput b z)
def M.dAt (old b:List Int) (p:List Put):Disk:=⟨old,b,⟨0,0,old.length⟩,p⟩
theorem bput_ok {b:List Int} (hl:b.length≤16) {size:Int} {z i:Nat} (h:M.Blk b size z i):(M.bput b z i).fWhat=1∧M.putOk (M.bput b z i)=true:=by
  refine ⟨rfl,?_⟩
  have hz:=h.z2
  have hp:=h.p
  have hw:(M.win b (i*z) (min z (b.length - i*z))).length=min z (b.length - i*z):=win_length (by omega)
  unfold M.putOk M.bput
  simp only [hw]
  have e:M.within ((i*z:Nat):Int) 0 (240 - (min z (b.length - i*z):Nat))=true:=by simp only [M.within,Bool.and_eq_true,decide_eq_true_eq]; omega
  rw [if_neg (by omega),e]
  rfl
theorem bputs_ok {b:List Int} (hl:b.length≤16) {size:Int} (hs:M.sizeOk size b.length=true) {i:Nat} (hi:i≤(M.blocks size b.length).toNat):∀ p∈M.bputs b size.toNat i,p.fWhat=1∧M.putOk p=true:=by
  intro p hp
  obtain ⟨j,hj,rfl⟩:=List.mem_map.1 hp
  have:=List.mem_range.1 hj
  exact bput_ok hl (blk_of hs (by omega))
theorem bputs_succ (b:List Int) (z i:Nat):M.bputs b z i++[M.bput b z i]=M.bputs b z (i+1):=by
  unfold M.bputs
  rw [List.range_succ,List.map_append]; rfl
theorem bputs_len (b:List Int) (z i:Nat):(M.bputs b z i).length=i:=by simp [M.bputs]
theorem stageFrom_self {old b:List Int} (ho:old.length≤240) (hl:b.length≤16) {size:Int} (hs:M.sizeOk size b.length=true):∀ (n i:Nat),i+n=(M.blocks size b.length).toNat →
    M.stageFrom (M.dAt old [] []) b size n i (M.dAt old [] (M.bputs b size.toNat i))=(M.dAt old [] (M.bputs b size.toNat (i+n)),true)
  | 0,i,_=>rfl
  | n+1,i,h=>by
    have hr:=blocks_range size b.length
    have hi:i < (M.blocks size b.length).toNat:=by omega
    have hk:=blk_of hs hi
    have hz:=hk.z2
    have e:M.putBytes (M.dAt old [] (M.bputs b size.toNat i)) (M.spare (M.dAt old [] [])) ((i:Int)*size) (M.blockAt b size i).1=(M.dAt old [] (M.bputs b size.toNat (i+1)),true):=by
      rw [blk_win hk,show M.spare (M.dAt old [] [])=1 from rfl]
      have e1:(i:Int)*size=((i*size.toNat:Nat):Int):=by rw [Int.natCast_mul,Int.toNat_of_nonneg (by omega)]
      rw [e1]
      have e2:M.addPut (M.dAt old [] (M.bputs b size.toNat i)) (M.bput b size.toNat i)=M.dAt old [] (M.bputs b size.toNat (i+1)):=by
        unfold M.addPut M.dAt
        rw [bputs_succ]
      have e3:M.diskOk (M.dAt old [] (M.bputs b size.toNat (i+1)))=true:=(k0_rec ho ⟨rfl,rfl,Nat.zero_le _⟩ (by show (M.bputs b size.toNat (i+1)).length≤200; rw [bputs_len]; omega) fun x hx=>(bputs_ok hl hs (by omega) x hx).2).1
      unfold M.putBytes
      rw [if_pos (show M.within 1 0 1=true from rfl)]
      show M.add _ (M.bput b size.toNat i)=_
      unfold M.add
      rw [e2,if_pos e3]
    unfold M.stageFrom
    rw [e,if_pos rfl,stageFrom_self ho hl hs n (i+1) (by omega)]
    rw [show i+1+n=i+(n+1) by omega]
theorem lays_self {old b:List Int} (hl:b.length≤16) {size:Int} (hs:M.sizeOk size b.length=true) (R:List Put):∀ (n i:Nat),i+n=(M.blocks size b.length).toNat →
    M.lays ((List.range' i n).map (M.bput b size.toNat)) (M.dAt old (b.take (i*size.toNat)) R)=M.dAt old b []
  | 0,i,h=>by
    have:=blocks_all hs
    show M.dAt old (b.take (i*size.toNat)) []=_
    rw [List.take_of_length_le (by rw [show i=(M.blocks size b.length).toNat by omega]; exact this)]
  | n+1,i,h=>by
    have hk:=blk_of hs (show i < (M.blocks size b.length).toNat by omega)
    have hp:=hk.p
    rw [List.range'_succ,List.map_cons]
    unfold M.lays
    have e:M.onePut (M.dAt old (b.take (i*size.toNat)) R) (M.bput b size.toNat i)=M.dAt old (b.take ((i+1)*size.toNat)) R:=by
      have hw:(M.win b (i*size.toNat) (min size.toNat (b.length - i*size.toNat))).length=min size.toNat (b.length - i*size.toNat):=win_length (by omega)
      have ht:(b.take (i*size.toNat)).length=i*size.toNat:=by rw [List.length_take]; omega
      show (⟨old,M.lay (b.take (i*size.toNat)) ((i*size.toNat:Nat):Int).toNat (M.win b (i*size.toNat) (min size.toNat (b.length - i*size.toNat))),⟨0,0,old.length⟩,R⟩:Disk)=_
      rw [Int.toNat_natCast]
      unfold M.lay M.dAt
      rw [hw,ht,overL_eq (by rw [List.length_append,List.length_replicate,hw,ht]; omega),hw,List.take_append_of_le_length (by omega),List.take_of_length_le (by omega),List.drop_of_length_le (by rw [List.length_append,List.length_replicate,ht]; omega),List.append_nil,pre_succ hp]
    rw [e]
    exact lays_self hl hs R n (i+1) (by omega)
theorem dAt_dok {old b:List Int} (ho:old.length≤240) (hb:b.length≤16) {p:List Put} (hp:p.length≤200) (hq:∀ x∈p,x.fB.length≤1048576):M.DOk (M.dAt old b p):=⟨by show old.length≤_; omega,by show b.length≤_; omega,by show p.length≤_; omega,hq⟩
theorem step_l3 {u:Nat} {r2:List Int×List Int×Int×Int} {m:Manifest} {x:Build} {d e:Disk} {ph ph' i i' a a2:Int} {h:Bool} {k:Nat} (hN:impl_NextCommit u d m x ph=some (e,ph')) (hb:bAdd .i64 ph 1=ph') (hS:impl_SafeFall u e r2.1 3 r2.2.1=some true)
    (hL1:impl_StepsLeft u ph'=some a) (hL2:impl_StepsLeft u ph=some a2) (hL3:bSub .i64 a2 1=a) (hF:ph' < 4→∃ s f,impl_FullSet u 40=some s∧impl_Fall u e s=some f∧impl_Holds u f 0 r2.1=some true) (hH:impl_Holds u e 3 r2.2.1=some h) (hi:i < 4) (hi2:bAdd .i64 i 1=i') :
    laws_FnCommits_l3 u (k+1) r2 ph false i x d.fA d.fB d.fR.fGen d.fR.fSlot d.fR.fLen d.fP m=laws_FnCommits_l3 u k r2 ph' h i' x e.fA e.fB e.fR.fGen e.fR.fSlot e.fR.fLen e.fP m:=by
  conv=>lhs; unfold laws_FnCommits_l3
  simp only [hi,decide_true,cond_true]
  rw [show impl_NextCommit u (Disk.mk d.fA d.fB (Record.mk d.fR.fGen d.fR.fSlot d.fR.fLen) d.fP) m x ph=_ from hN]
  simp only [Option.bind_some,hb,bne_self_eq_false,cond_false,hS,Bool.not_true,hL1,hL2,hL3]
  unfold laws_FnCommits_j4 laws_FnCommits_j5
  simp only [cond_false]
  by_cases hp:ph' < 4
  · obtain ⟨s,f,h1,h2,h3⟩:=hF hp
    simp only [hp,decide_true,cond_true,h1,h2,h3,Option.bind_some,Bool.not_true,cond_false,hH,hi2]
  · simp only [hp,decide_false,cond_false,Option.bind_some,hH,hi2]
theorem drawCommit_ev {u:Nat} (hu:1099511627776≤u) {code:List Int} (h:code.length≤1048576):Ev (spec_DrawCommit u code) fun v=>M.img 240 v.1∧M.img 16 v.2.1∧2≤v.2.2.1∧v.2.2.1≤6:=by
  unfold spec_DrawCommit
  refine Ev_bind (Ev_new hu h) fun c hc=>Ev_bind (Ev_img hu hc) fun b hb=>Ev_bind (Ev_old hu hb.2 (img_mono hb.1 (by omega))) fun o ho=>Ev_bind (Ev_below u ho.2 _) fun s hs=>Ev_bind (Ev_below u hs.2 _) fun t ht=>?_
  have h1:=hs.1.1
  have h2:=hs.1.2 (by omega)
  refine Ev_some ⟨ho.1,hb.1,?_⟩
  show 2≤bAdd .i64 2 s.1∧bAdd .i64 2 s.1≤6
  rw [bAdd_i64 (by omega) (by omega)]
  omega
def M.recPut (b:List Int):Put:=⟨2,0,[],⟨3,1,b.length⟩⟩
def M.dEnd (old b:List Int):Disk:=⟨old,b,⟨3,1,b.length⟩,[]⟩
theorem rec3 {b:List Int} (h:b.length≤16):M.recordOk ⟨3,1,b.length⟩=true:=by
  unfold M.recordOk M.within
  simp
  omega
theorem impl_DiskNew_i {u:Nat} {b:List Int} (hb:b.length≤240):impl_DiskNew u 0 b=some ⟨b,[],⟨0,0,b.length⟩,[]⟩:=by
  unfold impl_DiskNew
  rw [show impl_isGen u 0=some true from rfl]
  have:¬ ((b.length:Int) > 240):=by omega
  simp only [Option.bind_some,Bool.not_true,cond_false,this,decide_false]
  unfold impl_DiskNew_j1
  simp only [cond_false]
  rw [impl_cloned_eq u (by omega)]
  rfl
theorem commitAll_i {u:Nat} (hu:1099511627776≤u) {m:Manifest} (hm:m.fSums.length≤1048576) {x:Build} (hx:M.BldWf x):∀ (n i k:Nat) (d:Disk) (ph:Int),i+n=4→n < k→M.DiskIn d→impl_CommitAll_l2 u k ph (i:Int) m x d.fA d.fB d.fR.fGen d.fR.fSlot d.fR.fLen d.fP=some (M.commitL m x n d ph):=by
  intro n
  induction n with
  | zero =>
    intro i k d ph hi hk hd
    obtain ⟨k,rfl⟩:∃ j,k=j+1:=⟨k - 1,by omega⟩
    unfold impl_CommitAll_l2
    have:¬ (i:Int) < 4:=by omega
    simp only [this,decide_false,cond_false]
    rfl
  | succ n ih =>
    intro i k d ph hi hk hd
    obtain ⟨k,rfl⟩:∃ j,k=j+1:=⟨k - 1,by omega⟩
    unfold impl_CommitAll_l2 M.commitL
    have:(i:Int) < 4:=by omega
    have hl:=hd.l
    have e1:=impl_NextCommit_eq hu (d:=d) hd.o (by omega) hm hx ph
    have i1:=ih (i+1) k _ (M.nextCommit d m x ph).2 (by omega) (by omega) (nextCommit_in (m:=m) hd hx ph)
    simp only [this,decide_true,cond_true]
    rw [show impl_NextCommit u (Disk.mk d.fA d.fB (Record.mk d.fR.fGen d.fR.fSlot d.fR.fLen) d.fP) m x ph=_ from e1]
    simp only [Option.bind_some]
    rw [bAdd_succ (show i < 9223372036854775807 by omega)]
    exact i1
theorem commitAll_impl {u:Nat} (hu:1099511627776≤u) {d:Disk} (hd:M.DiskIn d) {m:Manifest} (hm:m.fSums.length≤1048576) {x:Build} (hx:M.BldWf x):impl_CommitAll u d m x=some (M.commitL m x 4 d 1):=by
  unfold impl_CommitAll
  rw [impl_copyDisk_eq hu hd.o]
  exact commitAll_i hu hm hx 4 0 u d 1 (by omega) (by omega) hd
theorem commits_core {u:Nat} (hu:1099511627776≤u) {r2:List Int×List Int×Int×Int} (ho:M.img 240 r2.1) (hb:M.img 16 r2.2.1) (h2:2≤r2.2.2.1) (h6:r2.2.2.1≤6) {x:Build} (hx:x=⟨((2 ^ (M.blocks r2.2.2.1 r2.2.1.length).toNat - 1:Nat):Int),r2.2.1⟩):laws_FnCommits_l3 u u r2 1 false 0 x r2.1 [] 0 0 r2.1.length [] (M.man 3 r2.2.1 r2.2.2.1)=some true:=by
  obtain ⟨old,b,size,t⟩:=r2
  simp only at ho hb h2 h6 hx ⊢
  have ho1:=ho.1
  have hb1:=hb.1
  have hs:M.sizeOk size b.length=true:=by unfold M.sizeOk M.within; simp; omega
  have hg:M.within 3 1 1000000=true:=rfl
  have hm:M.manOk (M.man 3 b size)=true:=by rw [← manOf_man hs hg]; exact manOk_manOf 3 hb.2 size
  have hwh:=whole_self hb.2 hs hg hm
  rw [← hx] at hwh
  have hr:=blocks_range size b.length
  have hsl:(M.man 3 b size).fSums.length≤1048576:=by rw [sums_len]; omega
  have hbx:M.BldWf x:=by subst hx; exact ⟨hb.2,by show b.length≤_; omega⟩
  have hpu:=bputs_ok hb1 hs (Nat.le_refl _)
  have hpl:(M.bputs b size.toNat (M.blocks size b.length).toNat).length≤200:=by rw [bputs_len]; omega
  have k1:M.K0 old (M.dAt old [] (M.bputs b size.toNat (M.blocks size b.length).toNat)):=⟨rfl,rfl,Nat.zero_le _⟩
  have k0:M.K0 old (M.dAt old [] []):=⟨rfl,rfl,Nat.zero_le _⟩
  have k2:M.K0 old (M.dAt old b []):=⟨rfl,rfl,by show b.length≤240; omega⟩
  obtain ⟨o0,r0⟩:=k0_rec ho1 k0 (Nat.zero_le _) (by simp [M.dAt])
  obtain ⟨o1,_⟩:=k0_rec ho1 k1 hpl fun y hy=>(hpu y hy).2
  obtain ⟨o2,_⟩:=k0_rec ho1 k2 (Nat.zero_le _) (by simp [M.dAt])
  obtain ⟨r1,f1,g1⟩:=k0_safe (b:=b) ho1 k1 hpl hpu
  obtain ⟨r2,f2,g2⟩:=k0_safe (b:=b) ho1 k2 (Nat.zero_le _) (by simp [M.dAt])
  have q3:∀ y∈[M.recPut b],M.putOk y=true:=by
    intro y hy
    simp only [List.mem_singleton] at hy
    subst hy
    unfold M.putOk M.recPut
    simp [rec3 hb1]
  obtain ⟨o3,r3⟩:=k0_rec (d:=M.dAt old b [M.recPut b]) ho1 ⟨rfl,rfl,by show b.length≤240; omega⟩ (show [M.recPut b].length≤200 by simp) q3
  have o4:M.diskOk (M.dEnd old b)=true:=dk ho1 (by omega) (rec3 hb1) (by simp [M.slotOf]) (by simp) (by simp)
  have r4:M.recover (M.dEnd old b)=(3,b):=by
    unfold M.recover
    rw [o4,if_pos rfl]
    simp [M.dEnd,M.slotOf]
  have n1:M.nextCommit (M.dAt old [] []) (M.man 3 b size) x 1=(M.dAt old [] (M.bputs b size.toNat (M.blocks size b.length).toNat),2):=by
    have e:M.stageAll (M.dAt old [] []) x.fBuf (M.man 3 b size).fSize=(M.dAt old [] (M.bputs b size.toNat (M.blocks size b.length).toNat),true):=by
      subst hx
      unfold M.stageAll
      rw [o0,show M.sizeOk (M.man 3 b size).fSize ((b.length:Nat):Int)=true from hs]
      have:=stageFrom_self ho1 hb1 hs (M.blocks size b.length).toNat 0 (by omega)
      rw [Nat.zero_add] at this
      simpa [M.dAt,M.bputs,M.man] using this
    unfold M.nextCommit
    rw [if_pos rfl,hwh,e]
    rfl
  have n2:M.nextCommit (M.dAt old [] (M.bputs b size.toNat (M.blocks size b.length).toNat)) (M.man 3 b size) x 2=(M.dAt old b [],3):=by
    unfold M.nextCommit
    rw [if_neg (by decide),if_pos rfl]
    unfold M.sure
    rw [if_pos o1]
    have:=lays_self (old:=old) hb1 hs (M.bputs b size.toNat (M.blocks size b.length).toNat) (M.blocks size b.length).toNat 0 (by omega)
    rw [Nat.zero_mul,List.take_zero] at this
    rw [show (M.dAt old [] (M.bputs b size.toNat (M.blocks size b.length).toNat)).fP=(List.range' 0 (M.blocks size b.length).toNat).map (M.bput b size.toNat) by rw [← List.range_eq_range']; rfl,this]
  have n3:M.nextCommit (M.dAt old b []) (M.man 3 b size) x 3=(M.dAt old b [M.recPut b],4):=by
    unfold M.nextCommit
    rw [if_neg (by decide),if_neg (by decide),if_pos rfl]
    have e:M.putRecord (M.dAt old b []) ⟨(M.man 3 b size).fGen,M.spare (M.dAt old b []),(M.man 3 b size).fLen⟩=(M.dAt old b [M.recPut b],true):=by
      unfold M.putRecord M.add
      rw [show M.addPut (M.dAt old b []) ⟨2,0,[],⟨(M.man 3 b size).fGen,M.spare (M.dAt old b []),(M.man 3 b size).fLen⟩⟩=M.dAt old b [M.recPut b] from rfl,if_pos o3]
    rw [e]
    rfl
  have n4:M.nextCommit (M.dAt old b [M.recPut b]) (M.man 3 b size) x 4=(M.dEnd old b,5):=by
    unfold M.nextCommit
    rw [if_neg (by decide),if_neg (by decide),if_neg (by decide),if_pos rfl]
    unfold M.sure
    rw [if_pos o3]
    rfl
  have d0:M.DOk (M.dAt old [] []):=dAt_dok ho1 (by simp) (by simp) (by simp)
  have d1:M.DOk (M.dAt old [] (M.bputs b size.toNat (M.blocks size b.length).toNat)):=dAt_dok ho1 (by simp) hpl fun y hy=>by
    obtain ⟨j,_,rfl⟩:=List.mem_map.1 hy
    have:=win_le b (j*size.toNat) (min size.toNat (b.length - j*size.toNat))
    show (M.win b (j*size.toNat) (min size.toNat (b.length - j*size.toNat))).length≤_
    omega
  have d2:M.DOk (M.dAt old b []):=dAt_dok ho1 hb1 (by simp) (by simp)
  have d3:M.DOk (M.dAt old b [M.recPut b]):=dAt_dok ho1 hb1 (by simp) (by simp [M.recPut])
  have d4:M.DOk (M.dEnd old b):=⟨by show old.length≤_; omega,by show b.length≤_; omega,Nat.zero_le _,by simp [M.dEnd]⟩
  have ff:impl_FullSet u 40=some ((2 ^ 40 - 1:Nat):Int):=impl_FullSet_eq u (Nat.le_refl _)
  have f3:M.safeFall (M.dAt old b [M.recPut b]) old 3 b=true:=by
    unfold M.safeFall M.allFalls
    rw [holdsAny_0 r3,Bool.true_and,List.all_eq_true]
    intro y hy
    obtain ⟨k,_,rfl⟩:=List.mem_map.1 hy
    unfold M.fall
    rw [if_pos o3]
    have e:M.falls (k:Int) (M.dAt old b [M.recPut b]).fP 0 (M.dAt old b [M.recPut b])=if M.inSet (k:Int) 0 then M.dEnd old b else M.dAt old b []:=by
      show M.falls (k:Int) [] 1 (if M.inSet (k:Int) 0 then _ else _)=_
      split <;> rfl
    rw [e]
    split
    · exact holdsAny_1 r4
    · exact holdsAny_0 r2
  have f4:M.safeFall (M.dEnd old b) old 3 b=true:=by
    unfold M.safeFall M.allFalls
    rw [holdsAny_1 r4,Bool.true_and,List.all_eq_true]
    intro y hy
    obtain ⟨k,_,rfl⟩:=List.mem_map.1 hy
    unfold M.fall
    rw [if_pos o4]
    exact holdsAny_1 r4
  have fok:∀ {d:Disk},M.DOk d→∀ s,M.DOk (M.fall d s):=fun h s=>fall_ok h s
  suffices H:∀ k,laws_FnCommits_l3 u (k+5) (old,b,size,t) 1 false 0 x old [] 0 0 old.length [] (M.man 3 b size)=some true by
    have:=H (u - 5)
    rwa [show u - 5+5=u by omega] at this
  intro k
  refine (step_l3 (d:=M.dAt old [] []) (ph':=2) (i':=1) (a:=3) (a2:=4) ((impl_NextCommit_eq hu d0 (by simp [M.dAt]) hsl hbx 1).trans (congrArg some n1)) rfl ((impl_SafeFall_eq hu d1 _ _ _).trans (congrArg some f1)) rfl rfl rfl
    (fun _=>⟨_,_,ff,impl_Fall_eq hu d1 _,(impl_Holds_eq hu (fok d1 _) _ _).trans (congrArg some (holds_of (g1 _)))⟩) ((impl_Holds_eq hu d1 3 b).trans (congrArg some (holds_no r1 (by decide)))) (by decide) rfl).trans ?_
  refine (step_l3 (d:=M.dAt old [] (M.bputs b size.toNat (M.blocks size b.length).toNat)) (ph':=3) (i':=2) (a:=2) (a2:=3) ((impl_NextCommit_eq hu d1 (by show (M.bputs b size.toNat (M.blocks size b.length).toNat).length≤_; omega) hsl hbx 2).trans (congrArg some n2)) rfl ((impl_SafeFall_eq hu d2 _ _ _).trans (congrArg some f2)) rfl rfl rfl
    (fun _=>⟨_,_,ff,impl_Fall_eq hu d2 _,(impl_Holds_eq hu (fok d2 _) _ _).trans (congrArg some (holds_of (g2 _)))⟩) ((impl_Holds_eq hu d2 3 b).trans (congrArg some (holds_no r2 (by decide)))) (by decide) rfl).trans ?_
  refine (step_l3 (d:=M.dAt old b []) (ph':=4) (i':=3) (a:=1) (a2:=2) ((impl_NextCommit_eq hu d2 (by simp [M.dAt]) hsl hbx 3).trans (congrArg some n3)) rfl ((impl_SafeFall_eq hu d3 _ _ _).trans (congrArg some f3)) rfl rfl rfl
    (fun h=>absurd h (by decide)) ((impl_Holds_eq hu d3 3 b).trans (congrArg some (holds_no r3 (by decide)))) (by decide) rfl).trans ?_
  refine (step_l3 (d:=M.dAt old b [M.recPut b]) (ph':=5) (i':=4) (a:=0) (a2:=1) ((impl_NextCommit_eq hu d3 (by simp [M.dAt]) hsl hbx 4).trans (congrArg some n4)) rfl ((impl_SafeFall_eq hu d4 _ _ _).trans (congrArg some f4)) rfl rfl rfl
    (fun h=>absurd h (by decide)) ((impl_Holds_eq hu d4 3 b).trans (congrArg some (holds_of r4))) (by decide) rfl).trans ?_
  have ht:impl_Tells u (M.man 3 b size) b=some true:=by
    rw [impl_Tells_eq hu _ hb.2 (by omega),← manOf_man hs hg,tells_manOf hs hg]
  have hc:impl_Committed u (M.dEnd old b) (M.man 3 b size) b=some true:=by
    unfold impl_Committed
    rw [impl_Holds_eq hu d4,show M.holds (M.dEnd old b) (M.man 3 b size).fGen b=true from holds_of r4]
    simp only [Option.bind_some,cond_true,ht]
  have hn:impl_DiskNew u 0 old=some (M.dAt old [] []):=impl_DiskNew_i ho1
  have hd:M.DiskIn (M.dAt old [] []):=⟨d0,⟨ho.2,by simp [M.dAt,M.isBytes],by simp [M.dAt]⟩,Nat.zero_le _⟩
  have ha:impl_CommitAll u (M.dAt old [] []) (M.man 3 b size) x=some (M.dEnd old b):=by
    rw [commitAll_impl hu hd hsl hbx]
    simp only [M.commitL,n1,n2,n3,n4]
  unfold laws_FnCommits_l3 laws_FnCommits_j2
  have hlt:¬ (4:Int) < 4:=by decide
  simp only [hlt,decide_false,cond_false,beq_self_eq_true,cond_true]
  rw [show impl_Committed u _ (M.man 3 b size) b=_ from hc]
  simp only [Option.bind_some,cond_true,hn,ha]
  show (bif _ then (laws_sameDisk u (M.dEnd old b) (M.dEnd old b)).bind fun r=>some r else _)=_
  rw [laws_sameDisk_refl hu d4]
  rfl
theorem FnCommits_gen {u:Nat} (hu:1099511627776≤u) (p0:List Int):laws_FnCommits u p0=some true:=by
  unfold laws_FnCommits laws_big
  simp only [Option.bind_some]
  by_cases hb:(p0.length:Int) > 1048576
  · simp only [hb,decide_true,cond_true]
  · simp only [hb,decide_false,cond_false]
    obtain ⟨r,e,ho,hb,h2,h6⟩:=drawCommit_ev hu (show p0.length≤1048576 by omega)
    have ho1:=ho.1
    have hb1:=hb.1
    have hs:M.sizeOk r.2.2.1 r.2.1.length=true:=by unfold M.sizeOk M.within; simp; omega
    have hm:M.manOk (M.man 3 r.2.1 r.2.2.1)=true:=by rw [← manOf_man hs rfl]; exact manOk_manOf 3 hb.2 _
    have hr:=blocks_range r.2.2.1 r.2.1.length
    have hn:impl_DiskNew u 0 r.1=some (M.dAt r.1 [] []):=impl_DiskNew_i ho1
    obtain ⟨r0,f0,_⟩:=k0_safe (b:=r.2.1) (d:=M.dAt r.1 [] []) ho1 ⟨rfl,rfl,Nat.zero_le _⟩ (Nat.zero_le _) (by simp [M.dAt])
    have d0:M.DOk (M.dAt r.1 [] []):=dAt_dok ho1 (by simp) (by simp) (by simp)
    simp only [e,Option.bind_some,impl_ManOf_eq hu hb.2 (show r.2.1.length≤1073741824 by omega),manOf_man hs (show M.within 3 1 1000000=true from rfl),impl_BuildFrom_eq hu (show (M.man 3 r.2.1 r.2.2.1).fSums.length≤1048576 by rw [sums_len]; omega) hb.2 (show r.2.1.length≤1048576 by omega),hn,impl_SafeFall_eq hu d0,f0,Bool.not_true,cond_false,
      show impl_StepsLeft u 1=some 4 from rfl,bne_self_eq_false]
    unfold laws_FnCommits_j1
    exact commits_core hu ho hb h2 h6 (buildFrom_self hb.2 hs hm)
theorem FnCommits_law (p0:List Int) (h:wSl (wInt .u8) p0∧True):laws_FnCommits 1099511627776 p0=some true:=FnCommits_gen (Nat.le_refl _) p0
end Go.Tm.Pu
