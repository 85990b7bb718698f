/- Plain laws of the functions. -/
import Derived.Test.YtlhbkdaohjnjbaaDoorCEventTextD
import Derived.Test.YtlhbkdaohjnjbaaDoorPu2
set_option linter.unusedVariables false
set_option linter.unusedSimpArgs false
namespace Go.Tm.Pu
open Go.Tm
theorem laws_szByteS_eq {u : Nat} (hu : 1099511627776 ≤ u) {x : List Int} {n : Int} (h0 : 0 ≤ n) (h1 : n ≤ 1048576) (hw : (wSl (wInt .u8)) x) : laws_szByteS u x n = some (leftI n x.length) := left_len h0 h1 hw.1
theorem laws_toByteS_eq {u : Nat} (hu : 1099511627776 ≤ u) {x : List Int} (h : x.length ≤ 68719476736) : laws_toByteS u x = some x := by
  have hlen : x.length ≤ 68719476736 := by omega
  unfold laws_toByteS
  rw [chk_len, chk_dec (by rw [Int.toNat_natCast]; omega)]
  simp only [Option.bind_some, Int.toNat_natCast]
  rw [laws_toByteS_l2_w u x _ u (by omega) (by omega), wlist_copy0]
  · rfl
  · intro y i s k hx hi
    unfold laws_toByteS_l2_b
    rw [idx_nat, List.getElem?_eq_getElem hi]; simp
theorem laws_eqByteS_eq {u : Nat} (hu : 1099511627776 ≤ u) {x : List Int} (h : x.length ≤ 68719476736) : laws_eqByteS u x x = some true := by
  have hlen : x.length ≤ 68719476736 := by omega
  unfold laws_eqByteS
  simp only [bne_self_eq_false, cond_false]
  rw [laws_eqByteS_l2_w u x x () u (by omega) (by omega), wlist_all (xs := x) _ x 0 (by simp)]
  · rfl
  · intro y i k hx
    unfold laws_eqByteS_l2_b
    rw [idx_nat, hx]; simp
def Packet.bulk (x : Packet) : Nat := x.fB.length
theorem laws_szPacket_eq {u : Nat} (hu : 1099511627776 ≤ u) {x : Packet} {n : Int} (h0 : 0 ≤ n) (h1 : n ≤ 1048576) (hw : Packet.wf x) : laws_szPacket u x n = some (leftI n (Packet.bulk x)) := by
  unfold laws_szPacket Packet.bulk
  rw [laws_szByteS_eq hu h0 h1 hw.2.2.1]
  simp only [Option.bind_some]
  exact left_last
theorem laws_toPacket_eq {u : Nat} (hu : 1099511627776 ≤ u) {x : Packet} (h : Packet.bulk x ≤ 68719476736) : laws_toPacket u x = some x := by
  unfold Packet.bulk at h
  unfold laws_toPacket
  rw [laws_toByteS_eq hu (by omega)]; rfl
theorem laws_eqPacket_eq {u : Nat} (hu : 1099511627776 ≤ u) {x : Packet} (h : Packet.bulk x ≤ 68719476736) : laws_eqPacket u x x = some true := by
  unfold Packet.bulk at h
  unfold laws_eqPacket
  simp [laws_eqByteS_eq hu (x := x.fB) (by omega)]
def M.num (n : Int) : ByteArray := ⟨(Lib.itoa n).toArray⟩
theorem num_size {n : Int} (h0 : -9223372036854775808 ≤ n) (h1 : n ≤ 9223372036854775807) : (M.num n).size ≤ 21 := by
  have := Lib.itoa_length_le n h0 h1
  simpa [M.num, ByteArray.size] using this
theorem itoa_eq {u : Nat} {n : Int} (h0 : -9223372036854775808 ≤ n) (h1 : n ≤ 9223372036854775807) : strconv_Itoa u n = some (M.num n) := by
  unfold strconv_Itoa M.num
  simp [h0, h1]
theorem impl_NumText_eq {u : Nat} {n : Int} (h0 : -9223372036854775808 ≤ n) (h1 : n ≤ 9223372036854775807) : impl_NumText u n = some (M.num n) := by
  unfold impl_NumText
  rw [itoa_eq h0 h1]; rfl
def M.dg (m : Nat) : List UInt8 := if m = 0 then [] else Lib.decDigits m
theorem dg_step {m : Nat} (h : m ≠ 0) : M.dg m = M.dg (m / 10) ++ [UInt8.ofNat (48 + m % 10)] := by
  unfold M.dg
  rw [if_neg h, Lib.decDigits]
  by_cases h10 : m < 10
  · rw [dif_pos h10, if_pos (by omega), Nat.mod_eq_of_lt h10]; rfl
  · rw [dif_neg h10, if_neg (by omega)]
theorem byte_dig (d : Nat) (h : d < 10) : strOfNums [IntKind.wrap .u8 (bAdd .i64 48 (d : Int))] = ByteArray.mk #[UInt8.ofNat (48 + d)] := by
  have : ∀ d : Fin 10, strOfNums [IntKind.wrap .u8 (bAdd .i64 48 (d.val : Int))] = ByteArray.mk #[UInt8.ofNat (48 + d.val)] := by decide
  exact this ⟨d, h⟩
theorem ba_ext {a b : ByteArray} (h : a.data.toList = b.data.toList) : a = b := by
  cases a; cases b
  congr
  exact Array.toList_inj.1 h
theorem ba_app (a b : ByteArray) : (a ++ b).data.toList = a.data.toList ++ b.data.toList := by
  rw [ByteArray.data_append]; simp
theorem num_l2 {u : Nat} (p0 : Int) (sg : Int) (hs : sg = 1 ∨ sg = -1) : ∀ (j m k : Nat) (acc : ByteArray), m < 10 ^ j → m ≤ 9223372036854775808 → (sg = 1 → m ≤ 9223372036854775807) → j < k → acc.size + j ≤ 1000 →
    spec_NumText_l2 u k p0 acc (sg * m) = spec_NumText_j1 u p0 (ByteArray.mk (M.dg m).toArray ++ acc) := by
  have hnil : ∀ acc : ByteArray, ByteArray.mk (M.dg 0).toArray ++ acc = acc := fun acc => ba_ext (by rw [ba_app]; rfl)
  intro j
  induction j with
  | zero =>
    intro m k acc hm _ _ hk _
    obtain rfl : m = 0 := by simpa using hm
    obtain ⟨k, rfl⟩ : ∃ k', k = k' + 1 := ⟨k - 1, by omega⟩
    unfold spec_NumText_l2
    rw [hnil]
    simp
  | succ j ih =>
    intro m k acc hm hr hr1 hk ha
    obtain ⟨k, rfl⟩ : ∃ k', k = k' + 1 := ⟨k - 1, by omega⟩
    by_cases h0 : m = 0
    · subst h0
      unfold spec_NumText_l2
      rw [hnil]
      simp
    have hd : m % 10 < 10 := Nat.mod_lt _ (by omega)
    have hq : bQuo .i64 (sg * (m : Int)) 10 = sg * ((m / 10 : Nat) : Int) := by
      have e : (sg * (m : Int)).tdiv 10 = sg * ((m / 10 : Nat) : Int) := by
        rcases hs with rfl | rfl
        · rw [Int.one_mul, Int.one_mul]; rfl
        · rw [Int.neg_mul, Int.one_mul, Int.neg_mul, Int.one_mul, Int.neg_tdiv]; rfl
      unfold bQuo
      rw [e, wrap_i64] <;> rcases hs with rfl | rfl <;> omega
    have hrm : bRem .i64 (sg * (m : Int)) 10 = sg * ((m % 10 : Nat) : Int) := by
      unfold bRem
      rcases hs with rfl | rfl
      · rw [Int.one_mul, Int.one_mul]; rfl
      · rw [Int.neg_mul, Int.one_mul, Int.neg_mul, Int.one_mul, Int.neg_tmod]; rfl
    have hj3 : spec_NumText_j3 u (fun z0 z1 z2 => spec_NumText_l2 u k z0 z1 z2) p0 acc (sg * (m : Int)) ((m % 10 : Nat) : Int) = spec_NumText_j1 u p0 (ByteArray.mk (M.dg m).toArray ++ acc) := by
      unfold spec_NumText_j3
      rw [byte_dig _ hd, hq]
      have hsz : (ByteArray.mk #[UInt8.ofNat (48 + m % 10)]).size = 1 := rfl
      have hc : decide ((ByteArray.mk #[UInt8.ofNat (48 + m % 10)]).size + acc.size ≤ 9223372036854775807) = true := by rw [hsz]; simp; omega
      rw [hc]
      simp only [chk, if_true, Option.bind_some]
      rw [ih (m / 10) k _ (by rw [Nat.pow_succ] at hm; omega) (by omega) (fun _ => by omega) (by omega) (by rw [ByteArray.size_append, hsz]; omega)]
      congr 1
      refine ba_ext ?_
      rw [ba_app, ba_app, ba_app, dg_step h0]
      simp
    unfold spec_NumText_l2
    have hne : (sg * (m : Int) != 0) = true := by rcases hs with rfl | rfl <;> simp <;> omega
    rw [hne, cond_true, hrm]
    by_cases hneg : sg * ((m % 10 : Nat) : Int) < 0
    · rw [decide_eq_true hneg, cond_true]
      have : bSub .i64 0 (sg * ((m % 10 : Nat) : Int)) = ((m % 10 : Nat) : Int) := by
        rw [bSub_i64] <;> rcases hs with rfl | rfl <;> omega
      rw [this]
      exact hj3
    · rw [decide_eq_false hneg, cond_false]
      have : sg * ((m % 10 : Nat) : Int) = ((m % 10 : Nat) : Int) := by rcases hs with rfl | rfl <;> omega
      rw [this]
      exact hj3
theorem spec_NumText_eq {u : Nat} (hu : 1099511627776 ≤ u) {n : Int} (h0 : -9223372036854775808 ≤ n) (h1 : n ≤ 9223372036854775807) : spec_NumText u n = some (M.num n) := by
  unfold spec_NumText
  by_cases hz : n = 0
  · subst hz
    have : M.num 0 = ByteArray.mk #[48] := by
      unfold M.num Lib.itoa
      rw [if_neg (by omega), show (0 : Int).toNat = 0 by rfl, Lib.decDigits_one (by omega)]
      rfl
    rw [this]; rfl
  rw [beq_eq_false_iff_ne.2 hz, cond_false]
  rcases Int.lt_or_lt_of_ne hz with hl | hl
  · obtain ⟨m, rfl⟩ : ∃ m : Nat, n = -1 * (m : Int) := ⟨n.natAbs, by omega⟩
    rw [num_l2 (-1 * (m : Int)) (-1) (.inr rfl) 19 m u _ (by omega) (by omega) (fun h => by omega) (by omega) (by show 0 + 19 ≤ 1000; omega)]
    unfold spec_NumText_j1
    rw [decide_eq_true hl, cond_true]
    have hm0 : m ≠ 0 := by omega
    have hd : M.dg m = Lib.decDigits m := by unfold M.dg; rw [if_neg hm0]
    have hsz : (ByteArray.mk (M.dg m).toArray ++ ByteArray.mk #[]).size ≤ 21 := by
      have := num_size h0 h1
      have e : M.num (-1 * (m : Int)) = ByteArray.mk (45 :: Lib.decDigits m).toArray := by
        unfold M.num; rw [show (-1 * (m : Int)) = -(m : Int) by omega, Lib.itoa_neg m (by omega)]
      rw [e] at this
      rw [hd, ByteArray.size_append]
      simp only [ByteArray.size, List.size_toArray, List.length_cons] at this ⊢
      simp; omega
    have hc : decide ((ByteArray.mk #[45]).size + (ByteArray.mk (M.dg m).toArray ++ ByteArray.mk #[]).size ≤ 9223372036854775807) = true := by
      have : (ByteArray.mk #[45]).size = 1 := rfl
      rw [this]; simp only [decide_eq_true_eq]; omega
    rw [hc]
    simp only [chk, if_true, Option.bind_some, Option.some.injEq]
    refine ba_ext ?_
    rw [ba_app, ba_app, hd]
    unfold M.num
    rw [show (-1 * (m : Int)) = -(m : Int) by omega, Lib.itoa_neg m (by omega)]
    simp
  · obtain ⟨m, rfl⟩ : ∃ m : Nat, n = 1 * (m : Int) := ⟨n.toNat, by omega⟩
    rw [num_l2 (1 * (m : Int)) 1 (.inl rfl) 19 m u _ (by omega) (by omega) (fun h => by omega) (by omega) (by show 0 + 19 ≤ 1000; omega)]
    unfold spec_NumText_j1
    rw [decide_eq_false (by omega), cond_false]
    have hm0 : m ≠ 0 := by omega
    congr 1
    refine ba_ext ?_
    rw [ba_app]
    unfold M.num M.dg
    rw [if_neg hm0, Int.one_mul, Lib.itoa_nonneg]
    simp
def Event.bulk (x : Event) : Nat := Packet.bulk x.fP
theorem laws_szEvent_eq {u : Nat} (hu : 1099511627776 ≤ u) {x : Event} {n : Int} (h0 : 0 ≤ n) (h1 : n ≤ 1048576) (hw : Event.wf x) : laws_szEvent u x n = some (leftI n (Event.bulk x)) := by
  unfold laws_szEvent Event.bulk
  rw [laws_szPacket_eq hu h0 h1 hw.2.2.2.1]
  simp only [Option.bind_some]
  exact left_last
theorem laws_toEvent_eq {u : Nat} (hu : 1099511627776 ≤ u) {x : Event} (h : Event.bulk x ≤ 68719476736) : laws_toEvent u x = some x := by
  unfold Event.bulk at h
  unfold laws_toEvent
  rw [laws_toPacket_eq hu (by omega)]; rfl
theorem laws_eqEvent_eq {u : Nat} (hu : 1099511627776 ≤ u) {x : Event} (h : Event.bulk x ≤ 68719476736) : laws_eqEvent u x x = some true := by
  unfold Event.bulk at h
  unfold laws_eqEvent
  simp [laws_eqPacket_eq hu (x := x.fP) (by omega)]
theorem chk_size {a b : ByteArray} (ha : a.size ≤ 1048576) (hb : b.size ≤ 1048576) : chk (decide (a.size + b.size ≤ 9223372036854775807)) = some () := by
  rw [decide_eq_true (by omega)]; rfl
theorem i64_b {n : Int} (h : wInt .i64 n) : -9223372036854775808 ≤ n ∧ n ≤ 9223372036854775807 := h
theorem idx_lit {α : Type} (l : List α) (k : Nat) {v : α} (h : l[k]? = some v) : idx l (k : Int) = some v := by
  unfold idx
  simp [h]
def M.ev : Nat → ByteArray
  | 1 => ByteArray.mk #[116, 105, 99, 107]
  | 2 => ByteArray.mk #[116, 97, 107, 101]
  | 3 => ByteArray.mk #[108, 111, 115, 101]
  | 4 => ByteArray.mk #[100, 111, 117, 98, 108, 101]
  | 5 => ByteArray.mk #[102, 97, 108, 108]
  | 6 => ByteArray.mk #[114, 105, 115, 101]
  | _ => ByteArray.mk #[102, 111, 114, 103, 101]
theorem EventText_same {u : Nat} (hu : 1099511627776 ≤ u) {p0 : Event} (w0 : Event.wf p0) (b0 : Event.bulk p0 ≤ 1048576) : ∃ v, spec_EventText u p0 = some v ∧ impl_EventText u p0 = some v := by
  obtain ⟨_, hn, hs, _⟩ := w0
  obtain ⟨n0, n1⟩ := i64_b hn
  obtain ⟨s0, s1⟩ := i64_b hs
  unfold spec_EventText impl_EventText spec_l1In impl_within
  have e7 : bSub .i64 ((([(ByteArray.mk #[]), (ByteArray.mk #[116, 105, 99, 107]), (ByteArray.mk #[116, 97, 107, 101]), (ByteArray.mk #[108, 111, 115, 101]), (ByteArray.mk #[100, 111, 117, 98, 108, 101]), (ByteArray.mk #[102, 97, 108, 108]), (ByteArray.mk #[114, 105, 115, 101]), (ByteArray.mk #[102, 111, 114, 103, 101])]).length : Int)) 1 = 7 := by
    rw [bSub_i64] <;> simp
  rw [e7]
  by_cases h1 : p0.fKind ≥ 1
  · by_cases h7 : p0.fKind ≤ 7
    · simp only [decide_eq_true h1, decide_eq_true h7, cond_true, Option.bind_some, Bool.not_true, cond_false, impl_eventWords]
      obtain ⟨k, hk⟩ : ∃ k : Nat, p0.fKind = k := ⟨p0.fKind.toNat, by omega⟩
      have hkk : 1 ≤ k ∧ k ≤ 7 := by omega
      have key : ([(ByteArray.mk #[]), (ByteArray.mk #[116, 105, 99, 107]), (ByteArray.mk #[116, 97, 107, 101]), (ByteArray.mk #[108, 111, 115, 101]), (ByteArray.mk #[100, 111, 117, 98, 108, 101]), (ByteArray.mk #[102, 97, 108, 108]), (ByteArray.mk #[114, 105, 115, 101]), (ByteArray.mk #[102, 111, 114, 103, 101])])[k]? = some (M.ev k) := by
        match k, hkk with
        | 1, _ | 2, _ | 3, _ | 4, _ | 5, _ | 6, _ | 7, _ => rfl
      have hsz : (M.ev k).size ≤ 10 := by
        match k, hkk with
        | 1, _ | 2, _ | 3, _ | 4, _ | 5, _ | 6, _ | 7, _ => decide
      have h32 : (ByteArray.mk #[32]).size = 1 := rfl
      have hN := num_size n0 n1
      have hS := num_size s0 s1
      rw [hk, idx_lit _ k key]
      simp only [Option.bind_some, spec_NumText_eq hu n0 n1, impl_NumText_eq n0 n1, spec_NumText_eq hu s0 s1, impl_NumText_eq s0 s1]
      have c1 : chk (decide ((M.ev k).size + (ByteArray.mk #[32]).size ≤ 9223372036854775807)) = some () := chk_size (by omega) (by omega)
      have c2 : chk (decide ((M.ev k ++ ByteArray.mk #[32]).size + (M.num p0.fN).size ≤ 9223372036854775807)) = some () := chk_size (by rw [ByteArray.size_append]; omega) (by omega)
      have c3 : chk (decide ((M.ev k ++ ByteArray.mk #[32] ++ M.num p0.fN).size + (ByteArray.mk #[32]).size ≤ 9223372036854775807)) = some () := chk_size (by rw [ByteArray.size_append, ByteArray.size_append]; omega) (by omega)
      have c4 : chk (decide ((M.ev k ++ ByteArray.mk #[32] ++ M.num p0.fN ++ ByteArray.mk #[32]).size + (M.num p0.fS).size ≤ 9223372036854775807)) = some () := chk_size (by rw [ByteArray.size_append, ByteArray.size_append, ByteArray.size_append]; omega) (by omega)
      have c5 : chk (decide ((ByteArray.mk #[32]).size + (M.num p0.fS).size ≤ 9223372036854775807)) = some () := chk_size (by omega) (by omega)
      have c6 : chk (decide ((M.ev k ++ ByteArray.mk #[32] ++ M.num p0.fN).size + (ByteArray.mk #[32] ++ M.num p0.fS).size ≤ 9223372036854775807)) = some () := chk_size (by rw [ByteArray.size_append, ByteArray.size_append]; omega) (by rw [ByteArray.size_append]; omega)
      cases hb : ((k : Int) == 5) with
      | false => simp only [c1, c2, cond_false, Option.bind_some, impl_EventText_j1]; exact ⟨_, rfl, rfl⟩
      | true => simp only [c1, c2, c3, c4, c5, c6, cond_true, Option.bind_some, impl_EventText_j1]; exact ⟨_, rfl, by simp only [ByteArray.append_assoc]⟩
    · simp only [decide_eq_true h1, decide_eq_false h7, cond_true, cond_false, Option.bind_some, Bool.not_false]
      exact ⟨_, rfl, rfl⟩
  · simp only [decide_eq_false h1, cond_false, Option.bind_some, Bool.not_false, cond_true]
    exact ⟨_, rfl, rfl⟩
theorem EventText_law (p0 : Event) (h : Event.wf p0 ∧ True) : laws_FnExactEventText 1099511627776 p0 = some true := by
  obtain ⟨w0, _⟩ := h
  have hu : 1099511627776 ≤ 1099511627776 := Nat.le_refl _
  unfold laws_FnExactEventText
  rw [laws_szEvent_eq hu (x := p0) (n := 1048576) (by omega) (by omega) w0]
  simp only [Option.bind_some]
  by_cases b0 : ((Event.bulk p0 : Nat) : Int) ≤ 1048576
  · have c0 : ¬ (1048576 - ((Event.bulk p0 : Nat) : Int) < 0) := by omega
    rw [leftI_pos b0]
    simp only [c0, decide_false, cond_false]
    obtain ⟨v, e1, e2⟩ := EventText_same hu w0 (show _ ≤ 1048576 by omega)
    simp only [laws_toEvent_eq hu (x := p0) (by omega), laws_eqEvent_eq hu (x := p0) (by omega), e1, e2, Option.bind_some, bne_self_eq_false, beq_self_eq_true, Bool.not_true, cond_false]
  · rw [leftI_neg b0]; rfl
end Go.Tm.Pu
