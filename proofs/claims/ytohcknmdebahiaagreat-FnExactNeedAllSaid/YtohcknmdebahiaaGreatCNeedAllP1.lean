/- Plain laws of the functions. -/
import Derived.Test.YtohcknmdebahiaaGreatCNeedAllD
import Derived.Test.YtohcknmdebahiaaGreatPu2
set_option linter.unusedVariables false
set_option linter.unusedSimpArgs false
namespace Go.Tm.Pu
open Go.Tm
theorem laws_szByteS_eq {u : Nat} (hu : 1099511627776 ≤ u) {x : List Int} {n : Int} (h0 : 0 ≤ n) (h1 : n ≤ 1048576) (hw : (wSl (wInt .u8)) x) : laws_szByteS u x n = some (leftI n x.length) := left_len h0 h1 hw.1
theorem laws_toByteS_eq {u : Nat} (hu : 1099511627776 ≤ u) {x : List Int} (h : x.length ≤ 68719476736) : laws_toByteS u x = some x := by
  have hlen : x.length ≤ 68719476736 := by omega
  unfold laws_toByteS
  rw [chk_len, chk_dec (by rw [Int.toNat_natCast]; omega)]
  simp only [Option.bind_some, Int.toNat_natCast]
  rw [laws_toByteS_l2_w u x _ u (by omega) (by omega), wlist_copy0]
  · rfl
  · intro y i s k hx hi
    unfold laws_toByteS_l2_b
    rw [idx_nat, List.getElem?_eq_getElem hi]; simp
theorem laws_eqByteS_eq {u : Nat} (hu : 1099511627776 ≤ u) {x : List Int} (h : x.length ≤ 68719476736) : laws_eqByteS u x x = some true := by
  have hlen : x.length ≤ 68719476736 := by omega
  unfold laws_eqByteS
  simp only [bne_self_eq_false, cond_false]
  rw [laws_eqByteS_l2_w u x x () u (by omega) (by omega), wlist_all (xs := x) _ x 0 (by simp)]
  · rfl
  · intro y i k hx
    unfold laws_eqByteS_l2_b
    rw [idx_nat, hx]; simp
theorem laws_toRecord_eq (u : Nat) (x : Record) : laws_toRecord u x = some x := by
  unfold laws_toRecord
  rfl
theorem laws_eqRecord_eq (u : Nat) (x : Record) : laws_eqRecord u x x = some true := by
  unfold laws_eqRecord
  simp []
def Put.bulk (x : Put) : Nat := x.fB.length
theorem laws_szPut_eq {u : Nat} (hu : 1099511627776 ≤ u) {x : Put} {n : Int} (h0 : 0 ≤ n) (h1 : n ≤ 1048576) (hw : Put.wf x) : laws_szPut u x n = some (leftI n (Put.bulk x)) := by
  unfold laws_szPut Put.bulk
  rw [laws_szByteS_eq hu h0 h1 hw.2.2.1]
  simp only [Option.bind_some]
  exact left_last
theorem laws_toPut_eq {u : Nat} (hu : 1099511627776 ≤ u) {x : Put} (h : Put.bulk x ≤ 68719476736) : laws_toPut u x = some x := by
  unfold Put.bulk at h
  unfold laws_toPut
  rw [laws_toByteS_eq hu (by omega), laws_toRecord_eq u _]; rfl
theorem laws_eqPut_eq {u : Nat} (hu : 1099511627776 ≤ u) {x : Put} (h : Put.bulk x ≤ 68719476736) : laws_eqPut u x x = some true := by
  unfold Put.bulk at h
  unfold laws_eqPut
  simp [laws_eqByteS_eq hu (x := x.fB) (by omega), laws_eqRecord_eq]
theorem laws_toKid_eq (u : Nat) (x : Kid) : laws_toKid u x = some x := by
  unfold laws_toKid
  rfl
theorem laws_eqKid_eq (u : Nat) (x : Kid) : laws_eqKid u x x = some true := by
  unfold laws_eqKid
  simp []
theorem laws_toSum_eq (u : Nat) (x : Sum) : laws_toSum u x = some x := by
  unfold laws_toSum
  rfl
theorem laws_eqSum_eq (u : Nat) (x : Sum) : laws_eqSum u x x = some true := by
  unfold laws_eqSum
  simp []
theorem laws_szIntS_eq {u : Nat} (hu : 1099511627776 ≤ u) {x : List Int} {n : Int} (h0 : 0 ≤ n) (h1 : n ≤ 1048576) (hw : (wSl (wInt .i64)) x) : laws_szIntS u x n = some (leftI n x.length) := left_len h0 h1 hw.1
theorem laws_toIntS_eq {u : Nat} (hu : 1099511627776 ≤ u) {x : List Int} (h : x.length ≤ 68719476736) : laws_toIntS u x = some x := by
  have hlen : x.length ≤ 68719476736 := by omega
  unfold laws_toIntS
  rw [chk_len, chk_dec (by rw [Int.toNat_natCast]; omega)]
  simp only [Option.bind_some, Int.toNat_natCast]
  rw [laws_toIntS_l2_w u x _ u (by omega) (by omega), wlist_copy0]
  · rfl
  · intro y i s k hx hi
    unfold laws_toIntS_l2_b
    rw [idx_nat, List.getElem?_eq_getElem hi]; simp
theorem laws_eqIntS_eq {u : Nat} (hu : 1099511627776 ≤ u) {x : List Int} (h : x.length ≤ 68719476736) : laws_eqIntS u x x = some true := by
  have hlen : x.length ≤ 68719476736 := by omega
  unfold laws_eqIntS
  simp only [bne_self_eq_false, cond_false]
  rw [laws_eqIntS_l2_w u x x () u (by omega) (by omega), wlist_all (xs := x) _ x 0 (by simp)]
  · rfl
  · intro y i k hx
    unfold laws_eqIntS_l2_b
    rw [idx_nat, hx]; simp
def Tree.bulk (x : Tree) : Nat := x.fUp.length
theorem laws_szTree_eq {u : Nat} (hu : 1099511627776 ≤ u) {x : Tree} {n : Int} (h0 : 0 ≤ n) (h1 : n ≤ 1048576) (hw : Tree.wf x) : laws_szTree u x n = some (leftI n (Tree.bulk x)) := by
  unfold laws_szTree Tree.bulk
  rw [laws_szIntS_eq hu h0 h1 hw.1]
  simp only [Option.bind_some]
  exact left_last
theorem laws_toTree_eq {u : Nat} (hu : 1099511627776 ≤ u) {x : Tree} (h : Tree.bulk x ≤ 68719476736) : laws_toTree u x = some x := by
  unfold Tree.bulk at h
  unfold laws_toTree
  rw [laws_toIntS_eq hu (by omega)]; rfl
theorem laws_eqTree_eq {u : Nat} (hu : 1099511627776 ≤ u) {x : Tree} (h : Tree.bulk x ≤ 68719476736) : laws_eqTree u x x = some true := by
  unfold Tree.bulk at h
  unfold laws_eqTree
  simp [laws_eqIntS_eq hu (x := x.fUp) (by omega)]
theorem laws_toConf_eq (u : Nat) (x : Conf) : laws_toConf u x = some x := by
  unfold laws_toConf
  rfl
theorem laws_eqConf_eq (u : Nat) (x : Conf) : laws_eqConf u x x = some true := by
  unfold laws_eqConf
  simp []
theorem laws_szSumS_eq {u : Nat} (hu : 1099511627776 ≤ u) {x : List Sum} {n : Int} (h0 : 0 ≤ n) (h1 : n ≤ 1048576) (hw : (wSl Sum.wf) x) : laws_szSumS u x n = some (leftI n x.length) := left_len h0 h1 hw.1
theorem laws_toSumS_eq {u : Nat} (hu : 1099511627776 ≤ u) {x : List Sum} (h : x.length ≤ 68719476736) : laws_toSumS u x = some x := by
  have hlen : x.length ≤ 68719476736 := by omega
  unfold laws_toSumS
  rw [chk_len, chk_dec (by rw [Int.toNat_natCast]; omega)]
  simp only [Option.bind_some, Int.toNat_natCast]
  rw [laws_toSumS_l2_w u x _ u (by omega) (by omega), wlist_copy0]
  · rfl
  · intro y i s k hx hi
    unfold laws_toSumS_l2_b
    rw [laws_toSum_eq u _]
    rw [idx_nat, List.getElem?_eq_getElem hi]; simp
theorem laws_eqSumS_eq {u : Nat} (hu : 1099511627776 ≤ u) {x : List Sum} (h : x.length ≤ 68719476736) : laws_eqSumS u x x = some true := by
  have hlen : x.length ≤ 68719476736 := by omega
  unfold laws_eqSumS
  simp only [bne_self_eq_false, cond_false]
  rw [laws_eqSumS_l2_w u x x () u (by omega) (by omega), wlist_all (xs := x) _ x 0 (by simp)]
  · rfl
  · intro y i k hx
    unfold laws_eqSumS_l2_b
    rw [idx_nat, hx]
    simp only [Option.bind_some]
    rw [laws_eqSum_eq]; simp
def Manifest.bulk (x : Manifest) : Nat := x.fSums.length
theorem laws_szManifest_eq {u : Nat} (hu : 1099511627776 ≤ u) {x : Manifest} {n : Int} (h0 : 0 ≤ n) (h1 : n ≤ 1048576) (hw : Manifest.wf x) : laws_szManifest u x n = some (leftI n (Manifest.bulk x)) := by
  unfold laws_szManifest Manifest.bulk
  rw [laws_szSumS_eq hu h0 h1 hw.2.2.2.1]
  simp only [Option.bind_some]
  exact left_last
theorem laws_toManifest_eq {u : Nat} (hu : 1099511627776 ≤ u) {x : Manifest} (h : Manifest.bulk x ≤ 68719476736) : laws_toManifest u x = some x := by
  unfold Manifest.bulk at h
  unfold laws_toManifest
  rw [laws_toSumS_eq hu (by omega)]; rfl
theorem laws_eqManifest_eq {u : Nat} (hu : 1099511627776 ≤ u) {x : Manifest} (h : Manifest.bulk x ≤ 68719476736) : laws_eqManifest u x x = some true := by
  unfold Manifest.bulk at h
  unfold laws_eqManifest
  simp [laws_eqSumS_eq hu (x := x.fSums) (by omega)]
def Build.bulk (x : Build) : Nat := x.fBuf.length
theorem laws_szBuild_eq {u : Nat} (hu : 1099511627776 ≤ u) {x : Build} {n : Int} (h0 : 0 ≤ n) (h1 : n ≤ 1048576) (hw : Build.wf x) : laws_szBuild u x n = some (leftI n (Build.bulk x)) := by
  unfold laws_szBuild Build.bulk
  rw [laws_szByteS_eq hu h0 h1 hw.2.1]
  simp only [Option.bind_some]
  exact left_last
theorem laws_toBuild_eq {u : Nat} (hu : 1099511627776 ≤ u) {x : Build} (h : Build.bulk x ≤ 68719476736) : laws_toBuild u x = some x := by
  unfold Build.bulk at h
  unfold laws_toBuild
  rw [laws_toByteS_eq hu (by omega)]; rfl
theorem laws_eqBuild_eq {u : Nat} (hu : 1099511627776 ≤ u) {x : Build} (h : Build.bulk x ≤ 68719476736) : laws_eqBuild u x x = some true := by
  unfold Build.bulk at h
  unfold laws_eqBuild
  simp [laws_eqByteS_eq hu (x := x.fBuf) (by omega)]
theorem laws_szKidS_eq {u : Nat} (hu : 1099511627776 ≤ u) {x : List Kid} {n : Int} (h0 : 0 ≤ n) (h1 : n ≤ 1048576) (hw : (wSl Kid.wf) x) : laws_szKidS u x n = some (leftI n x.length) := left_len h0 h1 hw.1
theorem laws_toKidS_eq {u : Nat} (hu : 1099511627776 ≤ u) {x : List Kid} (h : x.length ≤ 68719476736) : laws_toKidS u x = some x := by
  have hlen : x.length ≤ 68719476736 := by omega
  unfold laws_toKidS
  rw [chk_len, chk_dec (by rw [Int.toNat_natCast]; omega)]
  simp only [Option.bind_some, Int.toNat_natCast]
  rw [laws_toKidS_l2_w u x _ u (by omega) (by omega), wlist_copy0]
  · rfl
  · intro y i s k hx hi
    unfold laws_toKidS_l2_b
    rw [laws_toKid_eq u _]
    rw [idx_nat, List.getElem?_eq_getElem hi]; simp
theorem laws_eqKidS_eq {u : Nat} (hu : 1099511627776 ≤ u) {x : List Kid} (h : x.length ≤ 68719476736) : laws_eqKidS u x x = some true := by
  have hlen : x.length ≤ 68719476736 := by omega
  unfold laws_eqKidS
  simp only [bne_self_eq_false, cond_false]
  rw [laws_eqKidS_l2_w u x x () u (by omega) (by omega), wlist_all (xs := x) _ x 0 (by simp)]
  · rfl
  · intro y i k hx
    unfold laws_eqKidS_l2_b
    rw [idx_nat, hx]
    simp only [Option.bind_some]
    rw [laws_eqKid_eq]; simp
def Node.bulk (x : Node) : Nat := Manifest.bulk x.fMan + (Build.bulk x.fBld + (x.fKids.length))
theorem laws_szNode_eq {u : Nat} (hu : 1099511627776 ≤ u) {x : Node} {n : Int} (h0 : 0 ≤ n) (h1 : n ≤ 1048576) (hw : Node.wf x) : laws_szNode u x n = some (leftI n (Node.bulk x)) := by
  unfold laws_szNode Node.bulk
  rw [laws_szManifest_eq hu h0 h1 hw.2.2.2.1]
  simp only [Option.bind_some]
  exact left_step (c := Build.bulk x.fBld + (x.fKids.length)) (f := fun r => (laws_szBuild u x.fBld r).bind fun r1 => bif decide (r1 < 0) then some (-1) else ((laws_szKidS u x.fKids r1).bind fun r2 => bif decide (r2 < 0) then some (-1) else (some r2))) (fun v0 h2v0 h3v0 => by rw [laws_szBuild_eq hu h2v0 (by omega) hw.2.2.2.2.1]; simp only [Option.bind_some]; exact left_step (c := x.fKids.length) (f := fun r => (laws_szKidS u x.fKids r).bind fun r2 => bif decide (r2 < 0) then some (-1) else (some r2)) (fun v1 h2v1 h3v1 => by rw [laws_szKidS_eq hu h2v1 (by omega) hw.2.2.2.2.2.2.1]; simp only [Option.bind_some]; exact left_last) h2v0) h0
theorem laws_toNode_eq {u : Nat} (hu : 1099511627776 ≤ u) {x : Node} (h : Node.bulk x ≤ 68719476736) : laws_toNode u x = some x := by
  unfold Node.bulk at h
  unfold laws_toNode
  rw [laws_toManifest_eq hu (by omega), laws_toBuild_eq hu (by omega), laws_toKidS_eq hu (by omega)]; rfl
theorem laws_eqNode_eq {u : Nat} (hu : 1099511627776 ≤ u) {x : Node} (h : Node.bulk x ≤ 68719476736) : laws_eqNode u x x = some true := by
  unfold Node.bulk at h
  unfold laws_eqNode
  simp [laws_eqManifest_eq hu (x := x.fMan) (by omega), laws_eqBuild_eq hu (x := x.fBld) (by omega), laws_eqKidS_eq hu (x := x.fKids) (by omega)]
theorem laws_szPutS_eq {u : Nat} (hu : 1099511627776 ≤ u) {x : List Put} {n : Int} (h0 : 0 ≤ n) (h1 : n ≤ 1048576) (hw : (wSl Put.wf) x) : laws_szPutS u x n = some (leftI n (bulkL Put.bulk x)) :=
  left_list (c := sumL Put.bulk x) (f := fun r => laws_szPutS_l2 u u x r 0) (fun hm r h2 h3 => by
    rw [laws_szPutS_l2_w u x r u (by omega) (by omega)]
    exact wlist_sz (f := Put.bulk) (fun s => rfl) (fun y i s k hy hs0 hs1 => by unfold laws_szPutS_l2_b; rw [laws_szPut_eq hu hs0 hs1 (hw.2 y hy)]; rfl) x 0 r (fun _ h => h) h2 (by omega)) h0 h1 hw.1
theorem laws_toPutS_eq {u : Nat} (hu : 1099511627776 ≤ u) {x : List Put} (h : Pu.bulkL Put.bulk x ≤ 68719476736) : laws_toPutS u x = some x := by
  have hlen : x.length ≤ 68719476736 := by have := bulkL_len (f := Put.bulk) x; omega
  unfold laws_toPutS
  rw [chk_len, chk_dec (by rw [Int.toNat_natCast]; omega)]
  simp only [Option.bind_some, Int.toNat_natCast]
  rw [laws_toPutS_l2_w u x _ u (by omega) (by omega), wlist_copy0]
  · rfl
  · intro y i s k hx hi
    unfold laws_toPutS_l2_b
    rw [laws_toPut_eq hu (Nat.le_trans (bulkL_mem (f := Put.bulk) hx) h)]
    rw [idx_nat, List.getElem?_eq_getElem hi]; simp
theorem laws_eqPutS_eq {u : Nat} (hu : 1099511627776 ≤ u) {x : List Put} (h : Pu.bulkL Put.bulk x ≤ 68719476736) : laws_eqPutS u x x = some true := by
  have hlen : x.length ≤ 68719476736 := by have := bulkL_len (f := Put.bulk) x; omega
  unfold laws_eqPutS
  simp only [bne_self_eq_false, cond_false]
  rw [laws_eqPutS_l2_w u x x () u (by omega) (by omega), wlist_all (xs := x) _ x 0 (by simp)]
  · rfl
  · intro y i k hx
    unfold laws_eqPutS_l2_b
    rw [idx_nat, hx]
    simp only [Option.bind_some]
    rw [laws_eqPut_eq hu (Nat.le_trans (bulkL_mem (f := Put.bulk) (List.mem_of_getElem? hx)) h)]; simp
def Disk.bulk (x : Disk) : Nat := x.fA.length + (x.fB.length + (Pu.bulkL Put.bulk x.fP))
theorem laws_szDisk_eq {u : Nat} (hu : 1099511627776 ≤ u) {x : Disk} {n : Int} (h0 : 0 ≤ n) (h1 : n ≤ 1048576) (hw : Disk.wf x) : laws_szDisk u x n = some (leftI n (Disk.bulk x)) := by
  unfold laws_szDisk Disk.bulk
  rw [laws_szByteS_eq hu h0 h1 hw.1]
  simp only [Option.bind_some]
  exact left_step (c := x.fB.length + (Pu.bulkL Put.bulk x.fP)) (f := fun r => (laws_szByteS u x.fB r).bind fun r1 => bif decide (r1 < 0) then some (-1) else ((laws_szPutS u x.fP r1).bind fun r2 => bif decide (r2 < 0) then some (-1) else (some r2))) (fun v0 h2v0 h3v0 => by rw [laws_szByteS_eq hu h2v0 (by omega) hw.2.1]; simp only [Option.bind_some]; exact left_step (c := Pu.bulkL Put.bulk x.fP) (f := fun r => (laws_szPutS u x.fP r).bind fun r2 => bif decide (r2 < 0) then some (-1) else (some r2)) (fun v1 h2v1 h3v1 => by rw [laws_szPutS_eq hu h2v1 (by omega) hw.2.2.2.1]; simp only [Option.bind_some]; exact left_last) h2v0) h0
theorem laws_toDisk_eq {u : Nat} (hu : 1099511627776 ≤ u) {x : Disk} (h : Disk.bulk x ≤ 68719476736) : laws_toDisk u x = some x := by
  unfold Disk.bulk at h
  unfold laws_toDisk
  rw [laws_toByteS_eq hu (by omega), laws_toByteS_eq hu (by omega), laws_toRecord_eq u _, laws_toPutS_eq hu (by omega)]; rfl
theorem laws_eqDisk_eq {u : Nat} (hu : 1099511627776 ≤ u) {x : Disk} (h : Disk.bulk x ≤ 68719476736) : laws_eqDisk u x x = some true := by
  unfold Disk.bulk at h
  unfold laws_eqDisk
  simp [laws_eqByteS_eq hu (x := x.fA) (by omega), laws_eqByteS_eq hu (x := x.fB) (by omega), laws_eqRecord_eq, laws_eqPutS_eq hu (x := x.fP) (by omega)]
theorem laws_toSent_eq (u : Nat) (x : Sent) : laws_toSent u x = some x := by
  unfold laws_toSent
  rfl
theorem laws_eqSent_eq (u : Nat) (x : Sent) : laws_eqSent u x x = some true := by
  unfold laws_eqSent
  simp []
def Image.bulk (x : Image) : Nat := x.fB.length
theorem laws_szImage_eq {u : Nat} (hu : 1099511627776 ≤ u) {x : Image} {n : Int} (h0 : 0 ≤ n) (h1 : n ≤ 1048576) (hw : Image.wf x) : laws_szImage u x n = some (leftI n (Image.bulk x)) := by
  unfold laws_szImage Image.bulk
  rw [laws_szByteS_eq hu h0 h1 hw.1]
  simp only [Option.bind_some]
  exact left_last
theorem laws_toImage_eq {u : Nat} (hu : 1099511627776 ≤ u) {x : Image} (h : Image.bulk x ≤ 68719476736) : laws_toImage u x = some x := by
  unfold Image.bulk at h
  unfold laws_toImage
  rw [laws_toByteS_eq hu (by omega)]; rfl
theorem laws_eqImage_eq {u : Nat} (hu : 1099511627776 ≤ u) {x : Image} (h : Image.bulk x ≤ 68719476736) : laws_eqImage u x x = some true := by
  unfold Image.bulk at h
  unfold laws_eqImage
  simp [laws_eqByteS_eq hu (x := x.fB) (by omega)]
theorem laws_szImageS_eq {u : Nat} (hu : 1099511627776 ≤ u) {x : List Image} {n : Int} (h0 : 0 ≤ n) (h1 : n ≤ 1048576) (hw : (wSl Image.wf) x) : laws_szImageS u x n = some (leftI n (bulkL Image.bulk x)) :=
  left_list (c := sumL Image.bulk x) (f := fun r => laws_szImageS_l2 u u x r 0) (fun hm r h2 h3 => by
    rw [laws_szImageS_l2_w u x r u (by omega) (by omega)]
    exact wlist_sz (f := Image.bulk) (fun s => rfl) (fun y i s k hy hs0 hs1 => by unfold laws_szImageS_l2_b; rw [laws_szImage_eq hu hs0 hs1 (hw.2 y hy)]; rfl) x 0 r (fun _ h => h) h2 (by omega)) h0 h1 hw.1
theorem laws_toImageS_eq {u : Nat} (hu : 1099511627776 ≤ u) {x : List Image} (h : Pu.bulkL Image.bulk x ≤ 68719476736) : laws_toImageS u x = some x := by
  have hlen : x.length ≤ 68719476736 := by have := bulkL_len (f := Image.bulk) x; omega
  unfold laws_toImageS
  rw [chk_len, chk_dec (by rw [Int.toNat_natCast]; omega)]
  simp only [Option.bind_some, Int.toNat_natCast]
  rw [laws_toImageS_l2_w u x _ u (by omega) (by omega), wlist_copy0]
  · rfl
  · intro y i s k hx hi
    unfold laws_toImageS_l2_b
    rw [laws_toImage_eq hu (Nat.le_trans (bulkL_mem (f := Image.bulk) hx) h)]
    rw [idx_nat, List.getElem?_eq_getElem hi]; simp
theorem laws_eqImageS_eq {u : Nat} (hu : 1099511627776 ≤ u) {x : List Image} (h : Pu.bulkL Image.bulk x ≤ 68719476736) : laws_eqImageS u x x = some true := by
  have hlen : x.length ≤ 68719476736 := by have := bulkL_len (f := Image.bulk) x; omega
  unfold laws_eqImageS
  simp only [bne_self_eq_false, cond_false]
  rw [laws_eqImageS_l2_w u x x () u (by omega) (by omega), wlist_all (xs := x) _ x 0 (by simp)]
  · rfl
  · intro y i k hx
    unfold laws_eqImageS_l2_b
    rw [idx_nat, hx]
    simp only [Option.bind_some]
    rw [laws_eqImage_eq hu (Nat.le_trans (bulkL_mem (f := Image.bulk) (List.mem_of_getElem? hx)) h)]; simp
theorem laws_szNodeS_eq {u : Nat} (hu : 1099511627776 ≤ u) {x : List Node} {n : Int} (h0 : 0 ≤ n) (h1 : n ≤ 1048576) (hw : (wSl Node.wf) x) : laws_szNodeS u x n = some (leftI n (bulkL Node.bulk x)) :=
  left_list (c := sumL Node.bulk x) (f := fun r => laws_szNodeS_l2 u u x r 0) (fun hm r h2 h3 => by
    rw [laws_szNodeS_l2_w u x r u (by omega) (by omega)]
    exact wlist_sz (f := Node.bulk) (fun s => rfl) (fun y i s k hy hs0 hs1 => by unfold laws_szNodeS_l2_b; rw [laws_szNode_eq hu hs0 hs1 (hw.2 y hy)]; rfl) x 0 r (fun _ h => h) h2 (by omega)) h0 h1 hw.1
theorem laws_toNodeS_eq {u : Nat} (hu : 1099511627776 ≤ u) {x : List Node} (h : Pu.bulkL Node.bulk x ≤ 68719476736) : laws_toNodeS u x = some x := by
  have hlen : x.length ≤ 68719476736 := by have := bulkL_len (f := Node.bulk) x; omega
  unfold laws_toNodeS
  rw [chk_len, chk_dec (by rw [Int.toNat_natCast]; omega)]
  simp only [Option.bind_some, Int.toNat_natCast]
  rw [laws_toNodeS_l2_w u x _ u (by omega) (by omega), wlist_copy0]
  · rfl
  · intro y i s k hx hi
    unfold laws_toNodeS_l2_b
    rw [laws_toNode_eq hu (Nat.le_trans (bulkL_mem (f := Node.bulk) hx) h)]
    rw [idx_nat, List.getElem?_eq_getElem hi]; simp
theorem laws_eqNodeS_eq {u : Nat} (hu : 1099511627776 ≤ u) {x : List Node} (h : Pu.bulkL Node.bulk x ≤ 68719476736) : laws_eqNodeS u x x = some true := by
  have hlen : x.length ≤ 68719476736 := by have := bulkL_len (f := Node.bulk) x; omega
  unfold laws_eqNodeS
  simp only [bne_self_eq_false, cond_false]
  rw [laws_eqNodeS_l2_w u x x () u (by omega) (by omega), wlist_all (xs := x) _ x 0 (by simp)]
  · rfl
  · intro y i k hx
    unfold laws_eqNodeS_l2_b
    rw [idx_nat, hx]
    simp only [Option.bind_some]
    rw [laws_eqNode_eq hu (Nat.le_trans (bulkL_mem (f := Node.bulk) (List.mem_of_getElem? hx)) h)]; simp
theorem laws_szDiskS_eq {u : Nat} (hu : 1099511627776 ≤ u) {x : List Disk} {n : Int} (h0 : 0 ≤ n) (h1 : n ≤ 1048576) (hw : (wSl Disk.wf) x) : laws_szDiskS u x n = some (leftI n (bulkL Disk.bulk x)) :=
  left_list (c := sumL Disk.bulk x) (f := fun r => laws_szDiskS_l2 u u x r 0) (fun hm r h2 h3 => by
    rw [laws_szDiskS_l2_w u x r u (by omega) (by omega)]
    exact wlist_sz (f := Disk.bulk) (fun s => rfl) (fun y i s k hy hs0 hs1 => by unfold laws_szDiskS_l2_b; rw [laws_szDisk_eq hu hs0 hs1 (hw.2 y hy)]; rfl) x 0 r (fun _ h => h) h2 (by omega)) h0 h1 hw.1
theorem laws_toDiskS_eq {u : Nat} (hu : 1099511627776 ≤ u) {x : List Disk} (h : Pu.bulkL Disk.bulk x ≤ 68719476736) : laws_toDiskS u x = some x := by
  have hlen : x.length ≤ 68719476736 := by have := bulkL_len (f := Disk.bulk) x; omega
  unfold laws_toDiskS
  rw [chk_len, chk_dec (by rw [Int.toNat_natCast]; omega)]
  simp only [Option.bind_some, Int.toNat_natCast]
  rw [laws_toDiskS_l2_w u x _ u (by omega) (by omega), wlist_copy0]
  · rfl
  · intro y i s k hx hi
    unfold laws_toDiskS_l2_b
    rw [laws_toDisk_eq hu (Nat.le_trans (bulkL_mem (f := Disk.bulk) hx) h)]
    rw [idx_nat, List.getElem?_eq_getElem hi]; simp
theorem laws_eqDiskS_eq {u : Nat} (hu : 1099511627776 ≤ u) {x : List Disk} (h : Pu.bulkL Disk.bulk x ≤ 68719476736) : laws_eqDiskS u x x = some true := by
  have hlen : x.length ≤ 68719476736 := by have := bulkL_len (f := Disk.bulk) x; omega
  unfold laws_eqDiskS
  simp only [bne_self_eq_false, cond_false]
  rw [laws_eqDiskS_l2_w u x x () u (by omega) (by omega), wlist_all (xs := x) _ x 0 (by simp)]
  · rfl
  · intro y i k hx
    unfold laws_eqDiskS_l2_b
    rw [idx_nat, hx]
    simp only [Option.bind_some]
    rw [laws_eqDisk_eq hu (Nat.le_trans (bulkL_mem (f := Disk.bulk) (List.mem_of_getElem? hx)) h)]; simp
def Packet.bulk (x : Packet) : Nat := x.fB.length
theorem laws_szPacket_eq {u : Nat} (hu : 1099511627776 ≤ u) {x : Packet} {n : Int} (h0 : 0 ≤ n) (h1 : n ≤ 1048576) (hw : Packet.wf x) : laws_szPacket u x n = some (leftI n (Packet.bulk x)) := by
  unfold laws_szPacket Packet.bulk
  rw [laws_szByteS_eq hu h0 h1 hw.2.2.1]
  simp only [Option.bind_some]
  exact left_last
theorem laws_toPacket_eq {u : Nat} (hu : 1099511627776 ≤ u) {x : Packet} (h : Packet.bulk x ≤ 68719476736) : laws_toPacket u x = some x := by
  unfold Packet.bulk at h
  unfold laws_toPacket
  rw [laws_toByteS_eq hu (by omega)]; rfl
theorem laws_eqPacket_eq {u : Nat} (hu : 1099511627776 ≤ u) {x : Packet} (h : Packet.bulk x ≤ 68719476736) : laws_eqPacket u x x = some true := by
  unfold Packet.bulk at h
  unfold laws_eqPacket
  simp [laws_eqByteS_eq hu (x := x.fB) (by omega)]
theorem laws_szPacketS_eq {u : Nat} (hu : 1099511627776 ≤ u) {x : List Packet} {n : Int} (h0 : 0 ≤ n) (h1 : n ≤ 1048576) (hw : (wSl Packet.wf) x) : laws_szPacketS u x n = some (leftI n (bulkL Packet.bulk x)) :=
  left_list (c := sumL Packet.bulk x) (f := fun r => laws_szPacketS_l2 u u x r 0) (fun hm r h2 h3 => by
    rw [laws_szPacketS_l2_w u x r u (by omega) (by omega)]
    exact wlist_sz (f := Packet.bulk) (fun s => rfl) (fun y i s k hy hs0 hs1 => by unfold laws_szPacketS_l2_b; rw [laws_szPacket_eq hu hs0 hs1 (hw.2 y hy)]; rfl) x 0 r (fun _ h => h) h2 (by omega)) h0 h1 hw.1
theorem laws_toPacketS_eq {u : Nat} (hu : 1099511627776 ≤ u) {x : List Packet} (h : Pu.bulkL Packet.bulk x ≤ 68719476736) : laws_toPacketS u x = some x := by
  have hlen : x.length ≤ 68719476736 := by have := bulkL_len (f := Packet.bulk) x; omega
  unfold laws_toPacketS
  rw [chk_len, chk_dec (by rw [Int.toNat_natCast]; omega)]
  simp only [Option.bind_some, Int.toNat_natCast]
  rw [laws_toPacketS_l2_w u x _ u (by omega) (by omega), wlist_copy0]
  · rfl
  · intro y i s k hx hi
    unfold laws_toPacketS_l2_b
    rw [laws_toPacket_eq hu (Nat.le_trans (bulkL_mem (f := Packet.bulk) hx) h)]
    rw [idx_nat, List.getElem?_eq_getElem hi]; simp
theorem laws_eqPacketS_eq {u : Nat} (hu : 1099511627776 ≤ u) {x : List Packet} (h : Pu.bulkL Packet.bulk x ≤ 68719476736) : laws_eqPacketS u x x = some true := by
  have hlen : x.length ≤ 68719476736 := by have := bulkL_len (f := Packet.bulk) x; omega
  unfold laws_eqPacketS
  simp only [bne_self_eq_false, cond_false]
  rw [laws_eqPacketS_l2_w u x x () u (by omega) (by omega), wlist_all (xs := x) _ x 0 (by simp)]
  · rfl
  · intro y i k hx
    unfold laws_eqPacketS_l2_b
    rw [idx_nat, hx]
    simp only [Option.bind_some]
    rw [laws_eqPacket_eq hu (Nat.le_trans (bulkL_mem (f := Packet.bulk) (List.mem_of_getElem? hx)) h)]; simp
theorem laws_szSentS_eq {u : Nat} (hu : 1099511627776 ≤ u) {x : List Sent} {n : Int} (h0 : 0 ≤ n) (h1 : n ≤ 1048576) (hw : (wSl Sent.wf) x) : laws_szSentS u x n = some (leftI n x.length) := left_len h0 h1 hw.1
theorem laws_toSentS_eq {u : Nat} (hu : 1099511627776 ≤ u) {x : List Sent} (h : x.length ≤ 68719476736) : laws_toSentS u x = some x := by
  have hlen : x.length ≤ 68719476736 := by omega
  unfold laws_toSentS
  rw [chk_len, chk_dec (by rw [Int.toNat_natCast]; omega)]
  simp only [Option.bind_some, Int.toNat_natCast]
  rw [laws_toSentS_l2_w u x _ u (by omega) (by omega), wlist_copy0]
  · rfl
  · intro y i s k hx hi
    unfold laws_toSentS_l2_b
    rw [laws_toSent_eq u _]
    rw [idx_nat, List.getElem?_eq_getElem hi]; simp
theorem laws_eqSentS_eq {u : Nat} (hu : 1099511627776 ≤ u) {x : List Sent} (h : x.length ≤ 68719476736) : laws_eqSentS u x x = some true := by
  have hlen : x.length ≤ 68719476736 := by omega
  unfold laws_eqSentS
  simp only [bne_self_eq_false, cond_false]
  rw [laws_eqSentS_l2_w u x x () u (by omega) (by omega), wlist_all (xs := x) _ x 0 (by simp)]
  · rfl
  · intro y i k hx
    unfold laws_eqSentS_l2_b
    rw [idx_nat, hx]
    simp only [Option.bind_some]
    rw [laws_eqSent_eq]; simp
def World.bulk (x : World) : Nat := Tree.bulk x.fT + (x.fNew.length + (Pu.bulkL Image.bulk x.fOld + (Pu.bulkL Node.bulk x.fN + (Pu.bulkL Disk.bulk x.fD + (Pu.bulkL Packet.bulk x.fNet + (x.fLog.length))))))
theorem laws_szWorld_eq {u : Nat} (hu : 1099511627776 ≤ u) {x : World} {n : Int} (h0 : 0 ≤ n) (h1 : n ≤ 1048576) (hw : World.wf x) : laws_szWorld u x n = some (leftI n (World.bulk x)) := by
  unfold laws_szWorld World.bulk
  rw [laws_szTree_eq hu h0 h1 hw.2.1]
  simp only [Option.bind_some]
  exact left_step (c := x.fNew.length + (Pu.bulkL Image.bulk x.fOld + (Pu.bulkL Node.bulk x.fN + (Pu.bulkL Disk.bulk x.fD + (Pu.bulkL Packet.bulk x.fNet + (x.fLog.length)))))) (f := fun r => (laws_szByteS u x.fNew r).bind fun r1 => bif decide (r1 < 0) then some (-1) else ((laws_szImageS u x.fOld r1).bind fun r2 => bif decide (r2 < 0) then some (-1) else ((laws_szNodeS u x.fN r2).bind fun r3 => bif decide (r3 < 0) then some (-1) else ((laws_szDiskS u x.fD r3).bind fun r4 => bif decide (r4 < 0) then some (-1) else ((laws_szPacketS u x.fNet r4).bind fun r5 => bif decide (r5 < 0) then some (-1) else ((laws_szSentS u x.fLog r5).bind fun r6 => bif decide (r6 < 0) then some (-1) else (some r6))))))) (fun v0 h2v0 h3v0 => by rw [laws_szByteS_eq hu h2v0 (by omega) hw.2.2.1]; simp only [Option.bind_some]; exact left_step (c := Pu.bulkL Image.bulk x.fOld + (Pu.bulkL Node.bulk x.fN + (Pu.bulkL Disk.bulk x.fD + (Pu.bulkL Packet.bulk x.fNet + (x.fLog.length))))) (f := fun r => (laws_szImageS u x.fOld r).bind fun r2 => bif decide (r2 < 0) then some (-1) else ((laws_szNodeS u x.fN r2).bind fun r3 => bif decide (r3 < 0) then some (-1) else ((laws_szDiskS u x.fD r3).bind fun r4 => bif decide (r4 < 0) then some (-1) else ((laws_szPacketS u x.fNet r4).bind fun r5 => bif decide (r5 < 0) then some (-1) else ((laws_szSentS u x.fLog r5).bind fun r6 => bif decide (r6 < 0) then some (-1) else (some r6)))))) (fun v1 h2v1 h3v1 => by rw [laws_szImageS_eq hu h2v1 (by omega) hw.2.2.2.1]; simp only [Option.bind_some]; exact left_step (c := Pu.bulkL Node.bulk x.fN + (Pu.bulkL Disk.bulk x.fD + (Pu.bulkL Packet.bulk x.fNet + (x.fLog.length)))) (f := fun r => (laws_szNodeS u x.fN r).bind fun r3 => bif decide (r3 < 0) then some (-1) else ((laws_szDiskS u x.fD r3).bind fun r4 => bif decide (r4 < 0) then some (-1) else ((laws_szPacketS u x.fNet r4).bind fun r5 => bif decide (r5 < 0) then some (-1) else ((laws_szSentS u x.fLog r5).bind fun r6 => bif decide (r6 < 0) then some (-1) else (some r6))))) (fun v2 h2v2 h3v2 => by rw [laws_szNodeS_eq hu h2v2 (by omega) hw.2.2.2.2.1]; simp only [Option.bind_some]; exact left_step (c := Pu.bulkL Disk.bulk x.fD + (Pu.bulkL Packet.bulk x.fNet + (x.fLog.length))) (f := fun r => (laws_szDiskS u x.fD r).bind fun r4 => bif decide (r4 < 0) then some (-1) else ((laws_szPacketS u x.fNet r4).bind fun r5 => bif decide (r5 < 0) then some (-1) else ((laws_szSentS u x.fLog r5).bind fun r6 => bif decide (r6 < 0) then some (-1) else (some r6)))) (fun v3 h2v3 h3v3 => by rw [laws_szDiskS_eq hu h2v3 (by omega) hw.2.2.2.2.2.1]; simp only [Option.bind_some]; exact left_step (c := Pu.bulkL Packet.bulk x.fNet + (x.fLog.length)) (f := fun r => (laws_szPacketS u x.fNet r).bind fun r5 => bif decide (r5 < 0) then some (-1) else ((laws_szSentS u x.fLog r5).bind fun r6 => bif decide (r6 < 0) then some (-1) else (some r6))) (fun v4 h2v4 h3v4 => by rw [laws_szPacketS_eq hu h2v4 (by omega) hw.2.2.2.2.2.2.1]; simp only [Option.bind_some]; exact left_step (c := x.fLog.length) (f := fun r => (laws_szSentS u x.fLog r).bind fun r6 => bif decide (r6 < 0) then some (-1) else (some r6)) (fun v5 h2v5 h3v5 => by rw [laws_szSentS_eq hu h2v5 (by omega) hw.2.2.2.2.2.2.2.1]; simp only [Option.bind_some]; exact left_last) h2v4) h2v3) h2v2) h2v1) h2v0) h0
theorem laws_toWorld_eq {u : Nat} (hu : 1099511627776 ≤ u) {x : World} (h : World.bulk x ≤ 68719476736) : laws_toWorld u x = some x := by
  unfold World.bulk at h
  unfold laws_toWorld
  rw [laws_toConf_eq u _, laws_toTree_eq hu (by omega), laws_toByteS_eq hu (by omega), laws_toImageS_eq hu (by omega), laws_toNodeS_eq hu (by omega), laws_toDiskS_eq hu (by omega), laws_toPacketS_eq hu (by omega), laws_toSentS_eq hu (by omega)]; rfl
theorem laws_eqWorld_eq {u : Nat} (hu : 1099511627776 ≤ u) {x : World} (h : World.bulk x ≤ 68719476736) : laws_eqWorld u x x = some true := by
  unfold World.bulk at h
  unfold laws_eqWorld
  simp [laws_eqConf_eq, laws_eqTree_eq hu (x := x.fT) (by omega), laws_eqByteS_eq hu (x := x.fNew) (by omega), laws_eqImageS_eq hu (x := x.fOld) (by omega), laws_eqNodeS_eq hu (x := x.fN) (by omega), laws_eqDiskS_eq hu (x := x.fD) (by omega), laws_eqPacketS_eq hu (x := x.fNet) (by omega), laws_eqSentS_eq hu (x := x.fLog) (by omega)]
def M.within (n a b : Int) : Bool := decide (a ≤ n) && decide (n ≤ b)
def M.sizeOk (size n : Int) : Bool := M.within size 2 6 && M.within n 0 (40 * size)
def M.blocks (size n : Int) : Int := if M.sizeOk size n then (n + size - 1) / size else 0
def M.spanOf (size n i : Int) : Int × Int := if M.within i 0 (M.blocks size n - 1) then (i * size, min size (n - i * size)) else (0, 0)
theorem within_t {n a b : Int} (h : M.within n a b = true) : a ≤ n ∧ n ≤ b := by simpa [M.within] using h
theorem impl_within_eq (u : Nat) (n a b : Int) : impl_within u n a b = some (M.within n a b) := by
  unfold impl_within M.within
  by_cases h : a ≤ n <;> simp [h]
theorem spec_l1In_eq (u : Nat) (n a b : Int) : spec_l1In u n a b = some (M.within n a b) := by
  unfold spec_l1In M.within
  by_cases h : a ≤ n <;> simp [h]
theorem impl_SizeOk_eq (u : Nat) (s n : Int) : impl_SizeOk u s n = some (M.sizeOk s n) := by
  unfold impl_SizeOk M.sizeOk
  simp only [impl_within_eq, Option.bind_some]
  cases h : M.within s 2 6 with
  | false => simp
  | true =>
    have := within_t h
    simp (disch := omega) only [cond_true, Bool.true_and, bMul_i64]
theorem spec_SizeOk_eq (u : Nat) (s n : Int) : spec_SizeOk u s n = some (M.sizeOk s n) := by
  unfold spec_SizeOk M.sizeOk
  simp only [spec_l1In_eq, Option.bind_some]
  cases h : M.within s 2 6 with
  | false => simp
  | true =>
    have := within_t h
    simp (disch := omega) only [cond_true, Bool.true_and, bMul_i64]
    rw [Int.mul_comm]
theorem sizeOk_t {s n : Int} (h : M.sizeOk s n = true) : 2 ≤ s ∧ s ≤ 6 ∧ 0 ≤ n ∧ n ≤ 40 * s := by
  simp [M.sizeOk, M.within] at h; omega
def M.ceilDiv (a b : Int) : Int := if M.within a 0 1000000000000 && M.within b 1 1000000000000 then (a + b - 1) / b else 0
theorem impl_CeilDiv_eq (u : Nat) (a b : Int) : impl_CeilDiv u a b = some (M.ceilDiv a b) := by
  unfold impl_CeilDiv M.ceilDiv impl_CeilDiv_j1
  simp only [impl_within_eq, Option.bind_some]
  cases h : M.within a 0 1000000000000 with
  | false => simp
  | true =>
    cases h2 : M.within b 1 1000000000000 with
    | false => simp
    | true =>
      have := within_t h
      have := within_t h2
      have hb : (b == 0) = false := by simp; omega
      simp (disch := omega) [chk, bAdd_i64, bSub_i64, bQuo_pos, hb]
theorem spec_CeilDiv_eq (u : Nat) (a b : Int) : spec_CeilDiv u a b = some (M.ceilDiv a b) := by
  unfold spec_CeilDiv M.ceilDiv spec_CeilDiv_j1
  simp only [spec_l1In_eq, Option.bind_some]
  cases h : M.within a 0 1000000000000 with
  | false => simp
  | true =>
    cases h2 : M.within b 1 1000000000000 with
    | false => simp
    | true =>
      have := within_t h
      have := within_t h2
      have hb : (b == 0) = false := by simp; omega
      simp (disch := omega) [chk, bAdd_i64, bSub_i64, bQuo_pos, hb]
theorem blocks_ceil {s n : Int} (h : M.sizeOk s n = true) : M.ceilDiv n s = (n + s - 1) / s := by
  have := sizeOk_t h
  have h1 : M.within n 0 1000000000000 = true := by simp [M.within]; omega
  have h2 : M.within s 1 1000000000000 = true := by simp [M.within]; omega
  simp [M.ceilDiv, h1, h2]
theorem impl_Blocks_eq (u : Nat) (s n : Int) : impl_Blocks u s n = some (M.blocks s n) := by
  unfold impl_Blocks M.blocks
  simp only [impl_SizeOk_eq, impl_CeilDiv_eq, Option.bind_some]
  cases h : M.sizeOk s n with
  | false => simp
  | true => simp [blocks_ceil h]
theorem spec_Blocks_eq (u : Nat) (s n : Int) : spec_Blocks u s n = some (M.blocks s n) := by
  unfold spec_Blocks M.blocks
  simp only [spec_SizeOk_eq, spec_CeilDiv_eq, Option.bind_some]
  cases h : M.sizeOk s n with
  | false => simp
  | true => simp [blocks_ceil h]
theorem blocks_range (s n : Int) : 0 ≤ M.blocks s n ∧ M.blocks s n ≤ 40 := by
  unfold M.blocks
  split
  · rename_i h
    have h := sizeOk_t h
    refine ⟨Int.ediv_nonneg (by omega) (by omega), ?_⟩
    have : (n + s - 1) / s < 41 := Int.ediv_lt_of_lt_mul (by omega) (by omega)
    omega
  · omega
theorem blocks_ok {s n i : Int} (h : M.within i 0 (M.blocks s n - 1) = true) : M.sizeOk s n = true ∧ 0 ≤ i ∧ i ≤ 39 := by
  have h1 := within_t h
  have := blocks_range s n
  refine ⟨?_, by omega, by omega⟩
  cases h2 : M.sizeOk s n with
  | true => rfl
  | false => simp [M.blocks, h2] at h1; omega
theorem mul_range {s i : Int} (h1 : 2 ≤ s) (h2 : s ≤ 6) (h3 : 0 ≤ i) (h4 : i ≤ 39) : 0 ≤ i * s ∧ i * s ≤ 234 :=
  ⟨Int.mul_nonneg h3 (by omega), Int.le_trans (Int.mul_le_mul h4 h2 (by omega) (by omega)) (by omega)⟩
theorem impl_SpanOf_eq (u : Nat) (s n i : Int) : impl_SpanOf u s n i = some (M.spanOf s n i) := by
  unfold impl_SpanOf M.spanOf
  have hb := blocks_range s n
  simp (disch := omega) only [impl_Blocks_eq, impl_within_eq, Option.bind_some, bSub_i64]
  cases h : M.within i 0 (M.blocks s n - 1) with
  | false => simp
  | true =>
    have ⟨h1, h2, h3⟩ := blocks_ok h
    have h1 := sizeOk_t h1
    have h4 := mul_range (s := s) (i := i) (by omega) (by omega) h2 h3
    simp (disch := omega) [bMul_i64, bSub_i64]
    omega
theorem spec_Least_eq (u : Nat) (a b : Int) : spec_Least u a b = some (min a b) := by
  unfold spec_Least
  by_cases h : b < a <;> simp [h] <;> omega
theorem spec_SpanOf_eq (u : Nat) (s n i : Int) : spec_SpanOf u s n i = some (M.spanOf s n i) := by
  unfold spec_SpanOf M.spanOf
  have hb := blocks_range s n
  simp (disch := omega) only [spec_Blocks_eq, spec_l1In_eq, Option.bind_some, bSub_i64]
  cases h : M.within i 0 (M.blocks s n - 1) with
  | false => simp
  | true =>
    have ⟨h1, h2, h3⟩ := blocks_ok h
    have h1 := sizeOk_t h1
    have h4 := mul_range (s := s) (i := i) (by omega) (by omega) h2 h3
    simp (disch := omega) [bMul_i64, bSub_i64, spec_Least_eq]
def M.isBytes (b : List Int) : Prop := ∀ x ∈ b, 0 ≤ x ∧ x ≤ 255
def M.weakS : List Int → Int → Int → Int × Int
  | [], x, y => (x, y)
  | c :: b, x, y => M.weakS b ((x + c) % 251) ((y + (x + c) % 251) % 251)
def M.weakOf (b : List Int) : Int := (M.weakS b 0 0).1 + 251 * (M.weakS b 0 0).2
theorem weakS_range (b : List Int) : ∀ (x y : Int), 0 ≤ x → x < 251 → 0 ≤ y → y < 251 → 0 ≤ (M.weakS b x y).1 ∧ (M.weakS b x y).1 < 251 ∧ 0 ≤ (M.weakS b x y).2 ∧ (M.weakS b x y).2 < 251 := by
  induction b with
  | nil => intro x y h1 h2 h3 h4; exact ⟨h1, h2, h3, h4⟩
  | cons c b ih =>
    intro x y h1 h2 h3 h4
    exact ih _ _ (by omega) (by omega) (by omega) (by omega)
theorem weakOf_range (b : List Int) : 0 ≤ M.weakOf b ∧ M.weakOf b ≤ 63000 := by
  have := weakS_range b 0 0 (by omega) (by omega) (by omega) (by omega)
  unfold M.weakOf; omega
theorem spec_WeakOf_w (u : Nat) : ∀ (p b : List Int) (i : Nat) (x y : Int), M.isBytes b → 0 ≤ x → x < 251 → 0 ≤ y → y < 251 →
    wlist (spec_WeakOf_l2_f u p) (spec_WeakOf_l2_b u p) b i (x, y) = spec_WeakOf_j1 u (M.weakS b x y).1 (M.weakS b x y).2 := by
  intro p b
  induction b with
  | nil => intros; rfl
  | cons c b ih =>
    intro i x y hb h1 h2 h3 h4
    have hc := hb c (by simp)
    have e1 : bRem .i64 (bAdd .i64 x (IntKind.wrap .i64 c)) 251 = (x + c) % 251 := by
      rw [wrap_i64 (by omega) (by omega), bAdd_i64 (by omega) (by omega), bRem_pos (by omega)]
    have e2 : bRem .i64 (bAdd .i64 y ((x + c) % 251)) 251 = (y + (x + c) % 251) % 251 := by
      rw [bAdd_i64 (by omega) (by omega), bRem_pos (by omega)]
    simp only [wlist, spec_WeakOf_l2_b, e1, e2]
    exact ih (i + 1) _ _ (fun z hz => hb z (by simp [hz])) (by omega) (by omega) (by omega) (by omega)
theorem impl_WeakOf_w (u : Nat) : ∀ (p b : List Int) (i : Nat) (x y : Int), M.isBytes b → 0 ≤ x → x < 251 → 0 ≤ y → y < 251 →
    wlist (impl_WeakOf_l2_f u p) (impl_WeakOf_l2_b u p) b i (x, y) = impl_WeakOf_j1 u (M.weakS b x y).1 (M.weakS b x y).2 := by
  intro p b
  induction b with
  | nil => intros; rfl
  | cons c b ih =>
    intro i x y hb h1 h2 h3 h4
    have hc := hb c (by simp)
    have e1 : bRem .i64 (bAdd .i64 x (IntKind.wrap .i64 c)) 251 = (x + c) % 251 := by
      rw [wrap_i64 (by omega) (by omega), bAdd_i64 (by omega) (by omega), bRem_pos (by omega)]
    have e2 : bRem .i64 (bAdd .i64 y ((x + c) % 251)) 251 = (y + (x + c) % 251) % 251 := by
      rw [bAdd_i64 (by omega) (by omega), bRem_pos (by omega)]
    simp only [wlist, impl_WeakOf_l2_b, e1, e2]
    exact ih (i + 1) _ _ (fun z hz => hb z (by simp [hz])) (by omega) (by omega) (by omega) (by omega)
theorem spec_WeakOf_eq {u : Nat} (hu : 1099511627776 ≤ u) {b : List Int} (hb : M.isBytes b) (hl : b.length ≤ 1073741824) : spec_WeakOf u b = some (M.weakOf b) := by
  unfold spec_WeakOf
  rw [spec_WeakOf_l2_w u b (0, 0) u (by omega) (by omega), spec_WeakOf_w u b b 0 0 0 hb (by omega) (by omega) (by omega) (by omega)]
  have := weakS_range b 0 0 (by omega) (by omega) (by omega) (by omega)
  unfold spec_WeakOf_j1 M.weakOf
  simp (disch := omega) only [bMul_i64, bAdd_i64]
theorem tmod_wrap {n m : Int} (hm : 0 < m) : (n.tmod m + m).tmod m = n % m := by
  rcases Int.le_total 0 n with h | h
  · rw [Int.tmod_eq_emod_of_nonneg h, Int.tmod_eq_emod_of_nonneg (by have := Int.emod_nonneg n (show m ≠ 0 by omega); omega)]
    simp
  · have h1 : n.tmod m = -((-n) % m) := by
      rw [show n = -(-n) by omega, Int.neg_tmod, Int.tmod_eq_emod_of_nonneg (by omega)]; simp
    have h2 := Int.emod_nonneg (-n) (show m ≠ 0 by omega)
    have h3 := Int.emod_lt_of_pos (-n) hm
    rw [h1, Int.tmod_eq_emod_of_nonneg (by omega)]
    have : (-((-n) % m) + m) % m = n % m := by
      have e : -n = m * (-n / m) + (-n) % m := (Int.mul_ediv_add_emod (-n) m).symm
      have e2 : -((-n) % m) + m = n + m * (-n / m + 1) := by
        rw [Int.mul_add]; omega
      rw [e2, Int.add_mul_emod_self_left]
    exact this
theorem tmod_range {n m : Int} (hm : 0 < m) : -m < n.tmod m ∧ n.tmod m < m := by
  rcases Int.le_total 0 n with h | h
  · rw [Int.tmod_eq_emod_of_nonneg h]
    have h2 := Int.emod_nonneg n (show m ≠ 0 by omega)
    have h3 := Int.emod_lt_of_pos n hm
    omega
  · have h1 : n.tmod m = -((-n) % m) := by
      rw [show n = -(-n) by omega, Int.neg_tmod, Int.tmod_eq_emod_of_nonneg (by omega)]; simp
    have h2 := Int.emod_nonneg (-n) (show m ≠ 0 by omega)
    have h3 := Int.emod_lt_of_pos (-n) hm
    omega
theorem impl_Wrap_eq (u : Nat) (n m : Int) : impl_Wrap u n m = some (if M.within m 1 1000000000000 then n % m else 0) := by
  unfold impl_Wrap
  simp only [impl_within_eq, Option.bind_some]
  cases h : M.within m 1 1000000000000 with
  | false => simp
  | true =>
    have h3 := within_t h
    have hb : (m == 0) = false := by simp; omega
    have h4 := tmod_range (n := n) (m := m) (by omega)
    simp only [hb, Bool.not_true, cond_false, Bool.not_false, chk_true, Option.bind_some]
    have e1 : bRem .i64 n m = n.tmod m := rfl
    rw [e1, bAdd_i64 (by omega) (by omega)]
    show some ((n.tmod m + m).tmod m) = _
    rw [tmod_wrap (by omega)]; simp
theorem impl_weak_eq (u : Nat) (x y : Int) : impl_weak u x y = some (x % 251 + 251 * (y % 251)) := by
  unfold impl_weak
  have h : M.within 251 1 1000000000000 = true := by decide
  simp only [impl_Wrap_eq, Option.bind_some, h, if_true]
  simp (disch := omega) only [bMul_i64, bAdd_i64]
theorem impl_WeakOf_eq {u : Nat} (hu : 1099511627776 ≤ u) {b : List Int} (hb : M.isBytes b) (hl : b.length ≤ 1073741824) : impl_WeakOf u b = some (M.weakOf b) := by
  unfold impl_WeakOf
  rw [impl_WeakOf_l2_w u b (0, 0) u (by omega) (by omega), impl_WeakOf_w u b b 0 0 0 hb (by omega) (by omega) (by omega) (by omega)]
  have := weakS_range b 0 0 (by omega) (by omega) (by omega) (by omega)
  unfold impl_WeakOf_j1 M.weakOf
  simp only [impl_weak_eq, Option.bind_some]
  congr 1
  omega
def M.valS : List Int → Int → Int
  | [], s => s
  | c :: b, s => M.valS b (256 * s + c)
def M.sumOf (b : List Int) : Sum := if 6 < b.length then ⟨0, 0⟩ else ⟨M.weakOf b, M.valS b 1⟩
theorem spec_SumOf_w (u : Nat) : ∀ (p b : List Int) (i : Nat) (s : Int) (n : Nat), M.isBytes b → 0 ≤ s → s < 256 ^ n * 2 → n + b.length ≤ 6 →
    wlist (spec_SumOf_l2_f u p) (spec_SumOf_l2_b u p) b i s = spec_SumOf_j1 u p (M.valS b s) := by
  intro p b
  induction b with
  | nil => intros; rfl
  | cons c b ih =>
    intro i s n hb h1 h2 h3
    have hc := hb c (by simp)
    simp only [List.length_cons] at h3
    have hp : (256 : Int) ^ n ≤ 1099511627776 := by
      rcases (show n = 0 ∨ n = 1 ∨ n = 2 ∨ n = 3 ∨ n = 4 ∨ n = 5 by omega) with rfl | rfl | rfl | rfl | rfl | rfl <;> decide
    simp only [wlist, spec_SumOf_l2_b]
    rw [wrap_i64 (by omega) (by omega), bMul_i64 (by omega) (by omega), bAdd_i64 (by omega) (by omega)]
    exact ih (i + 1) _ (n + 1) (fun z hz => hb z (by simp [hz])) (by omega) (by rw [Int.pow_succ]; omega) (by omega)
theorem spec_SumOf_eq {u : Nat} (hu : 1099511627776 ≤ u) {b : List Int} (hb : M.isBytes b) (hl : b.length ≤ 1073741824) : spec_SumOf u b = some (M.sumOf b) := by
  unfold spec_SumOf M.sumOf
  by_cases h : 6 < b.length
  · have : (b.length : Int) > 6 := by omega
    simp [h, this]
  · have : ¬ ((b.length : Int) > 6) := by omega
    simp only [this, decide_false, cond_false, h, if_false]
    rw [spec_SumOf_l2_w u b 1 u (by omega) (by omega), spec_SumOf_w u b b 0 1 0 hb (by omega) (by decide) (by omega)]
    unfold spec_SumOf_j1
    rw [spec_WeakOf_eq hu hb hl]
    rfl
theorem impl_cloned_eq (u : Nat) {b : List Int} (hl : b.length ≤ 1073741824) : impl_cloned u b = some b := by
  unfold impl_cloned
  rw [chk_dec (by simp; omega), chk_dec (by simp; omega)]
  simp [chk]
theorem toNat_ofInt64 {a : Int} (h1 : 0 ≤ a) (h2 : a < 18446744073709551616) : (BitVec.ofInt 64 a).toNat = a.toNat := by
  rw [BitVec.toNat_ofInt]; omega
theorem bOr_nat {a b : Nat} (h1 : a < 9223372036854775808) (h2 : b < 9223372036854775808) : bOr .i64 (a : Int) (b : Int) = ((a ||| b : Nat) : Int) := by
  unfold bOr
  have e : (BitVec.ofInt (IntKind.bits .i64) (a : Int) ||| BitVec.ofInt (IntKind.bits .i64) (b : Int)).toNat = a ||| b := by
    change (BitVec.ofInt 64 (a : Int) ||| BitVec.ofInt 64 (b : Int)).toNat = _
    rw [BitVec.toNat_or, toNat_ofInt64 (by omega) (by omega), toNat_ofInt64 (by omega) (by omega)]; rfl
  rw [e]
  have : a ||| b < 2 ^ 63 := Nat.or_lt_two_pow (by omega) (by omega)
  exact wrap_i64 (by omega) (by omega)
theorem bAnd_nat {a b : Nat} (h1 : a < 9223372036854775808) (h2 : b < 9223372036854775808) : bAnd .i64 (a : Int) (b : Int) = ((a &&& b : Nat) : Int) := by
  unfold bAnd
  have e : (BitVec.ofInt (IntKind.bits .i64) (a : Int) &&& BitVec.ofInt (IntKind.bits .i64) (b : Int)).toNat = a &&& b := by
    change (BitVec.ofInt 64 (a : Int) &&& BitVec.ofInt 64 (b : Int)).toNat = _
    rw [BitVec.toNat_and, toNat_ofInt64 (by omega) (by omega), toNat_ofInt64 (by omega) (by omega)]; rfl
  rw [e]
  have : a &&& b ≤ a := Nat.and_le_left
  exact wrap_i64 (by omega) (by omega)
theorem bShl1_nat {i : Nat} (h : i ≤ 62) : bShl .i64 1 (i : Int) = ((2 ^ i : Nat) : Int) := by
  unfold bShl
  rw [show min (Int.toNat (i : Int)) (IntKind.bits .i64) = i by simp [IntKind.bits]; omega]
  have h1 : (2 : Nat) ^ i ≤ 2 ^ 62 := Nat.pow_le_pow_right (by omega) h
  have h2 : (1 : Int) * 2 ^ i = ((2 ^ i : Nat) : Int) := by simp
  rw [h2]
  generalize (2 : Nat) ^ i = p at h1
  exact wrap_i64 (by omega) (by omega)
theorem bShr_nat {a i : Nat} (h : i ≤ 64) : bShr .i64 (a : Int) (i : Int) = ((a / 2 ^ i : Nat) : Int) := by
  rw [bShr_k .i64 _ i h]; simp
def M.setBy : Nat → (Nat → Bool) → Nat
  | 0, _ => 0
  | n + 1, f => M.setBy n f ||| (if f n then 2 ^ n else 0)
theorem testBit_setBy (f : Nat → Bool) : ∀ (n i : Nat), (M.setBy n f).testBit i = (decide (i < n) && f i) := by
  intro n
  induction n with
  | zero => intro i; simp [M.setBy]
  | succ n ih =>
    intro i
    rw [M.setBy, Nat.testBit_or, ih]
    by_cases h : i = n
    · subst h
      cases f i <;> simp [Nat.testBit_two_pow_self]
    · have h1 : (if f n = true then 2 ^ n else 0).testBit i = false := by
        split
        · exact Nat.testBit_two_pow_of_ne (Ne.symm h)
        · simp
      rw [h1, Bool.or_false]
      congr 1
      rw [decide_eq_decide]; omega
theorem setBy_lt (f : Nat → Bool) (n : Nat) : M.setBy n f < 2 ^ n := by
  induction n with
  | zero => simp [M.setBy]
  | succ n ih =>
    rw [M.setBy]
    refine Nat.or_lt_two_pow (by rw [Nat.pow_succ]; omega) ?_
    have := Nat.pow_lt_pow_right (a := 2) (by omega) (Nat.lt_succ_self n)
    split <;> omega
theorem setBy_congr {f g : Nat → Bool} : ∀ {n : Nat}, (∀ i, i < n → f i = g i) → M.setBy n f = M.setBy n g := by
  intro n h
  apply Nat.eq_of_testBit_eq
  intro i
  rw [testBit_setBy, testBit_setBy]
  by_cases hi : i < n
  · rw [h i hi]
  · simp [hi]
theorem bAndNot_nat {a b n : Nat} (hn : n ≤ 62) (h1 : a < 2 ^ n) (h2 : b < 2 ^ n) : bAndNot .i64 (a : Int) (b : Int) = ((M.setBy n (fun i => a.testBit i && !b.testBit i) : Nat) : Int) := by
  have hp : (2 : Nat) ^ n ≤ 2 ^ 62 := Nat.pow_le_pow_right (by omega) hn
  unfold bAndNot
  have e : (BitVec.ofInt (IntKind.bits .i64) (a : Int) &&& ~~~ BitVec.ofInt (IntKind.bits .i64) (b : Int)).toNat = M.setBy n (fun i => a.testBit i && !b.testBit i) := by
    change (BitVec.ofInt 64 (a : Int) &&& ~~~ BitVec.ofInt 64 (b : Int)).toNat = _
    apply Nat.eq_of_testBit_eq
    intro i
    rw [testBit_setBy, BitVec.toNat_and, Nat.testBit_and, toNat_ofInt64 (by omega) (by omega), BitVec.testBit_toNat, BitVec.getLsbD_not]
    have hb : (BitVec.ofInt 64 (b : Int)).getLsbD i = b.testBit i := by rw [← BitVec.testBit_toNat, toNat_ofInt64 (by omega) (by omega)]; rfl
    rw [hb]
    have ha : ((a : Int).toNat).testBit i = a.testBit i := by simp
    rw [ha]
    by_cases hi : i < n
    · have : i < 64 := by omega
      simp [hi, this]
    · have : a < 2 ^ i := Nat.lt_of_lt_of_le h1 (Nat.pow_le_pow_right (by omega) (by omega))
      simp [hi, Nat.testBit_lt_two_pow this]
  rw [e]
  have := setBy_lt (fun i => a.testBit i && !b.testBit i) n
  exact wrap_i64 (by omega) (by omega)
def M.setOk (s : Int) : Bool := M.within s 0 1099511627775
def M.isPlace (i : Int) : Bool := M.within i 0 39
def M.inSet (s i : Int) : Bool := M.setOk s && M.isPlace i && s.toNat.testBit i.toNat
theorem impl_SetOk_eq (u : Nat) (s : Int) : impl_SetOk u s = some (M.setOk s) := by simp [impl_SetOk, impl_within_eq, M.setOk]
theorem spec_SetOk_eq (u : Nat) (s : Int) : spec_SetOk u s = some (M.setOk s) := by simp [spec_SetOk, spec_l1In_eq, M.setOk]
theorem impl_isPlace_eq (u : Nat) (s : Int) : impl_isPlace u s = some (M.isPlace s) := by simp [impl_isPlace, impl_within_eq, M.isPlace]
theorem bit_eq {s i : Int} (hs : M.setOk s = true) (hi : M.isPlace i = true) : (bAnd .i64 (bShr .i64 s i) 1 == 1) = s.toNat.testBit i.toNat := by
  have h1 := within_t hs
  have h2 := within_t hi
  obtain ⟨a, rfl⟩ := Int.eq_ofNat_of_zero_le h1.1
  obtain ⟨n, rfl⟩ := Int.eq_ofNat_of_zero_le h2.1
  rw [bShr_nat (by omega)]
  have h3 : a / 2 ^ n ≤ a := Nat.div_le_self a _
  rw [show (1 : Int) = ((1 : Nat) : Int) by rfl, bAnd_nat (by omega) (by omega), Nat.and_one_is_mod]
  simp only [Int.toNat_natCast, Nat.testBit_eq_decide_div_mod_eq]
  generalize a / 2 ^ n = z
  rw [Bool.eq_iff_iff, beq_iff_eq, decide_eq_true_eq]; omega
theorem impl_InSet_eq (u : Nat) (s i : Int) : impl_InSet u s i = some (M.inSet s i) := by
  unfold impl_InSet M.inSet
  simp only [impl_SetOk_eq, impl_isPlace_eq, Option.bind_some]
  cases h1 : M.setOk s with
  | false => simp
  | true =>
    cases h2 : M.isPlace i with
    | false => simp
    | true =>
      have h3 := within_t h2
      rw [chk_dec (by omega)]
      simp [bit_eq h1 h2]
theorem spec_InSet_eq (u : Nat) (s i : Int) : spec_InSet u s i = some (M.inSet s i) := by
  unfold spec_InSet M.inSet
  simp only [spec_SetOk_eq, spec_l1In_eq, Option.bind_some]
  cases h1 : M.setOk s with
  | false => simp
  | true =>
    change ((bif true then (bif M.isPlace i then _ else _) else _) : Option Bool) = _
    cases h2 : M.isPlace i with
    | false => simp
    | true =>
      have h3 := within_t h2
      simp only [cond_true]
      rw [chk_dec (by omega)]
      simp [bit_eq h1 h2]
def M.partsIn (s : Int) : List Int := if M.setOk s then ((List.range 40).filter fun i => s.toNat.testBit i).map Int.ofNat else []
theorem walk_choose {α ρ : Type} {fin : List α → Option ρ} {body : Nat → List α → (List α → Option ρ) → Option ρ} (f : Nat → Bool) (g : Nat → α) (n c : Nat) (hb : ∀ i s k, i < n → s.length ≤ c + i → body i s k = k (if f i then s ++ [g i] else s)) :
    ∀ (m i : Nat) (s : List α), i + m = n → s.length ≤ c + i → walk fin body m i s = fin (s ++ (((List.range' i m).filter f).map g)) := by
  intro m
  induction m with
  | zero => intro i s h1 h2; simp [walk]
  | succ m ih =>
    intro i s h1 h2
    simp only [walk]
    rw [hb i s _ (by omega) h2]
    cases hf : f i with
    | true =>
      simp only [if_true]
      rw [ih (i + 1) _ (by omega) (by simp; omega), List.range'_succ, List.filter_cons, hf]
      simp
    | false =>
      simp only [Bool.false_eq_true, if_false]
      rw [ih (i + 1) _ (by omega) (by omega), List.range'_succ, List.filter_cons, hf]
      simp
theorem impl_PartsIn_eq {u : Nat} (hu : 1099511627776 ≤ u) (s : Int) : impl_PartsIn u s = some (M.partsIn s) := by
  unfold impl_PartsIn
  rw [impl_PartsIn_l2_w u s [] u (by omega) (by omega), walk_choose (fun i => M.inSet s i) (fun i => (i : Int)) 40 0 _ (Int.toNat 40) 0 [] (by decide) (by simp)]
  · unfold impl_PartsIn_l2_f impl_PartsIn_j1 M.partsIn
    rw [show Int.toNat 40 = 40 by rfl, ← List.range_eq_range']
    cases h : M.setOk s with
    | false => simp [M.inSet, h]
    | true =>
      simp only [List.nil_append, if_true]
      congr 2
      apply List.filter_congr
      intro i hi
      have hi : i < 40 := by simpa using hi
      have : M.isPlace (i : Int) = true := by simp [M.isPlace, M.within]; omega
      simp [M.inSet, h, this]
  · intro i t k hi ht
    unfold impl_PartsIn_l2_b
    rw [impl_InSet_eq]
    simp only [Option.bind_some]
    cases M.inSet s i with
    | false => simp [impl_PartsIn_j3]
    | true =>
      simp only [cond_true, if_true]
      rw [chk_dec (by simp; omega)]
      simp [impl_PartsIn_j3]
theorem spec_PartsIn_eq {u : Nat} (hu : 1099511627776 ≤ u) (s : Int) : spec_PartsIn u s = some (M.partsIn s) := by
  unfold spec_PartsIn
  rw [spec_PartsIn_l2_w u s [] u (by omega) (by omega), walk_choose (fun i => M.inSet s i) (fun i => (i : Int)) 40 0 _ (Int.toNat 40) 0 [] (by decide) (by simp)]
  · unfold spec_PartsIn_l2_f spec_PartsIn_j1 M.partsIn
    rw [show Int.toNat 40 = 40 by rfl, ← List.range_eq_range']
    cases h : M.setOk s with
    | false => simp [M.inSet, h]
    | true =>
      simp only [List.nil_append, if_true]
      congr 2
      apply List.filter_congr
      intro i hi
      have hi : i < 40 := by simpa using hi
      have : M.isPlace (i : Int) = true := by simp [M.isPlace, M.within]; omega
      simp [M.inSet, h, this]
  · intro i t k hi ht
    unfold spec_PartsIn_l2_b
    rw [spec_InSet_eq]
    simp only [Option.bind_some]
    cases M.inSet s i with
    | false => simp [spec_PartsIn_j3]
    | true =>
      simp only [cond_true, if_true]
      rw [chk_dec (by simp; omega)]
      simp [spec_PartsIn_j3]
theorem bOr_shl8 {s c : Int} (h1 : 0 ≤ s) (h2 : s < 36028797018963968) (h3 : 0 ≤ c) (h4 : c ≤ 255) : bOr .i64 (bShl .i64 s 8) c = 256 * s + c := by
  obtain ⟨a, rfl⟩ := Int.eq_ofNat_of_zero_le h1
  obtain ⟨b, rfl⟩ := Int.eq_ofNat_of_zero_le h3
  have e : bShl .i64 (a : Int) 8 = ((a * 256 : Nat) : Int) := by
    unfold bShl
    rw [show min (Int.toNat (8 : Int)) (IntKind.bits .i64) = 8 by rfl]
    rw [wrap_i64 (by omega) (by omega)]; omega
  rw [e, bOr_nat (by omega) (by omega)]
  have h5 := Nat.shiftLeft_add_eq_or_of_lt (b := b) (i := 8) (by omega) a
  rw [Nat.shiftLeft_eq, show (2 : Nat) ^ 8 = 256 from rfl] at h5
  rw [← h5]; omega
theorem impl_SumOf_w (u : Nat) : ∀ (p b : List Int) (i : Nat) (s : Int) (n : Nat), M.isBytes b → 0 ≤ s → s < 256 ^ n * 2 → n + b.length ≤ 6 →
    wlist (impl_SumOf_l2_f u p) (impl_SumOf_l2_b u p) b i s = impl_SumOf_j1 u p (M.valS b s) := by
  intro p b
  induction b with
  | nil => intros; rfl
  | cons c b ih =>
    intro i s n hb h1 h2 h3
    have hc := hb c (by simp)
    simp only [List.length_cons] at h3
    have hp : (256 : Int) ^ n ≤ 1099511627776 := by
      rcases (show n = 0 ∨ n = 1 ∨ n = 2 ∨ n = 3 ∨ n = 4 ∨ n = 5 by omega) with rfl | rfl | rfl | rfl | rfl | rfl <;> decide
    simp only [wlist, impl_SumOf_l2_b]
    rw [wrap_i64 (by omega) (by omega), bOr_shl8 (by omega) (by omega) (by omega) (by omega)]
    exact ih (i + 1) _ (n + 1) (fun z hz => hb z (by simp [hz])) (by omega) (by rw [Int.pow_succ]; omega) (by omega)
theorem impl_SumOf_eq {u : Nat} (hu : 1099511627776 ≤ u) {b : List Int} (hb : M.isBytes b) (hl : b.length ≤ 1073741824) : impl_SumOf u b = some (M.sumOf b) := by
  unfold impl_SumOf M.sumOf
  by_cases h : 6 < b.length
  · have : (b.length : Int) > 6 := by omega
    simp [h, this]
  · have : ¬ ((b.length : Int) > 6) := by omega
    simp only [this, decide_false, cond_false, h, if_false]
    rw [impl_SumOf_l2_w u b 1 u (by omega) (by omega), impl_SumOf_w u b b 0 1 0 hb (by omega) (by decide) (by omega)]
    unfold impl_SumOf_j1
    rw [impl_WeakOf_eq hu hb hl]
    rfl
def M.win (b : List Int) (i n : Nat) : List Int := (b.take (i + n)).drop i
theorem win_eq (b : List Int) (i n : Nat) : M.win b i n = (b.drop i).take n := by
  unfold M.win; rw [List.drop_take]; congr 1; omega
theorem isBytes_win {b : List Int} (h : M.isBytes b) (i n : Nat) : M.isBytes (M.win b i n) := fun x hx => h x (List.mem_of_mem_take (List.mem_of_mem_drop hx))
theorem win_length {b : List Int} {i n : Nat} (h : i + n ≤ b.length) : (M.win b i n).length = n := by
  unfold M.win; rw [List.length_drop, List.length_take]; omega
theorem win_le (b : List Int) (i n : Nat) : (M.win b i n).length ≤ n := by
  unfold M.win; rw [List.length_drop, List.length_take]; omega
theorem sliceOK_nat {a b n : Nat} (h1 : a ≤ b) (h2 : b ≤ n) : chk (sliceOK (a : Int) (b : Int) (n : Int)) = some () := by
  have : sliceOK (a : Int) (b : Int) (n : Int) = true := by simp [sliceOK]; omega
  rw [this]; rfl
theorem bAdd_nat {a b : Nat} (h : a + b ≤ 9223372036854775807) : bAdd .i64 (a : Int) (b : Int) = ((a + b : Nat) : Int) := by
  rw [bAdd_i64 (by omega) (by omega)]; omega
theorem impl_Slice_eq (u : Nat) {b : List Int} {i n : Nat} (h : i + n ≤ b.length) (hl : b.length ≤ 1073741824) : impl_Slice u b i n = some (M.win b i n, true) := by
  unfold impl_Slice impl_Slice_j1
  have h1 : M.within (i : Int) 0 (b.length : Int) = true := by simp [M.within]; omega
  have h2 : M.within (n : Int) 0 ((b.length : Int) - (i : Int)) = true := by simp [M.within]; omega
  simp only [impl_within_eq, h1, Option.bind_some, bSub_i64 (a := (b.length : Int)) (b := (i : Int)) (by omega) (by omega), h2, Bool.not_true, cond_false]
  rw [bAdd_nat (by omega), sliceOK_nat (by omega) h]
  simp only [Option.bind_some, Int.toNat_natCast]
  rw [impl_cloned_eq u (by simp; omega)]
  rfl
def M.blockAt (b : List Int) (size i : Int) : List Int × Bool :=
  let s := M.spanOf size b.length i
  if s.2 = 0 then ([], false) else (M.win b s.1.toNat s.2.toNat, true)
theorem spanOf_range {size n i : Int} (hn : 0 ≤ n) : 0 ≤ (M.spanOf size n i).1 ∧ 0 ≤ (M.spanOf size n i).2 ∧ (M.spanOf size n i).2 ≤ 6 ∧ (M.spanOf size n i).1 + (M.spanOf size n i).2 ≤ n := by
  unfold M.spanOf
  split
  · rename_i h
    have ⟨h1, h2, h3⟩ := blocks_ok h
    have h4 := sizeOk_t h1
    have h5 := (within_t h).2
    unfold M.blocks at h5
    rw [if_pos h1] at h5
    have h6 := mul_range h4.1 h4.2.1 h2 h3
    have h7 : i * size ≤ n := by
      have h8 : i + 1 ≤ (n + size - 1) / size := by omega
      have h9 : (i + 1) * size ≤ n + size - 1 := (Int.le_ediv_iff_mul_le (by omega)).1 h8
      rw [Int.add_mul] at h9
      omega
    dsimp only
    omega
  · dsimp only; omega
theorem blockAt_bytes {b : List Int} (hb : M.isBytes b) (size i : Int) : M.isBytes (M.blockAt b size i).1 ∧ (M.blockAt b size i).1.length ≤ 6 := by
  have h := spanOf_range (size := size) (n := b.length) (i := i) (by omega)
  unfold M.blockAt
  dsimp only
  split
  · exact ⟨by simp [M.isBytes], by simp⟩
  · refine ⟨isBytes_win hb _ _, ?_⟩
    have := win_le b (M.spanOf size b.length i).1.toNat (M.spanOf size b.length i).2.toNat
    dsimp only
    omega
theorem impl_BlockAt_eq (u : Nat) {b : List Int} (hl : b.length ≤ 1073741824) (size i : Int) : impl_BlockAt u b size i = some (M.blockAt b size i) := by
  have h := spanOf_range (size := size) (n := b.length) (i := i) (by omega)
  unfold impl_BlockAt M.blockAt
  simp only [impl_SpanOf_eq, Option.bind_some]
  generalize M.spanOf size b.length i = s at h
  obtain ⟨a, n⟩ := s
  dsimp only at h ⊢
  by_cases h0 : n = 0
  · simp [h0]
  · have : (n == 0) = false := by simpa using h0
    obtain ⟨x, rfl⟩ := Int.eq_ofNat_of_zero_le h.1
    obtain ⟨y, rfl⟩ := Int.eq_ofNat_of_zero_le h.2.1
    simp only [this, cond_false, h0, if_false]
    rw [impl_Slice_eq u (by omega) hl]
    rfl
theorem spec_BlockAt_eq (u : Nat) {b : List Int} (hl : b.length ≤ 1073741824) (size i : Int) : spec_BlockAt u b size i = some (M.blockAt b size i) := by
  have h := spanOf_range (size := size) (n := b.length) (i := i) (by omega)
  unfold spec_BlockAt M.blockAt
  simp only [spec_SpanOf_eq, Option.bind_some]
  generalize M.spanOf size b.length i = s at h
  obtain ⟨a, n⟩ := s
  dsimp only at h ⊢
  by_cases h0 : n = 0
  · simp [h0]
  · have : (n == 0) = false := by simpa using h0
    obtain ⟨x, rfl⟩ := Int.eq_ofNat_of_zero_le h.1
    obtain ⟨y, rfl⟩ := Int.eq_ofNat_of_zero_le h.2.1
    simp only [this, cond_false, h0, if_false]
    rw [bAdd_nat (by omega), sliceOK_nat (by omega) (by omega)]
    simp only [Option.bind_some, Int.toNat_natCast]
    rw [chk_dec (by simp; omega)]
    rfl
def M.sumsOf (b : List Int) (size : Int) : List Sum := (List.range (M.blocks size b.length).toNat).map fun (i : Nat) => M.sumOf (M.blockAt b size i).1
theorem walk_append {α ρ : Type} {fin : List α → Option ρ} {body : Nat → List α → (List α → Option ρ) → Option ρ} (g : Nat → α) (n : Nat) (hb : ∀ i s k, i < n → s.length = i → body i s k = k (s ++ [g i])) :
    walk fin body n 0 [] = fin ((List.range n).map g) := by
  have : ∀ (m i : Nat) (s : List α), i + m = n → s.length = i → walk fin body m i s = fin (s ++ (List.range' i m).map g) := by
    intro m
    induction m with
    | zero => intro i s h1 h2; simp [walk]
    | succ m ih =>
      intro i s h1 h2
      simp only [walk]
      rw [hb i s _ (by omega) h2, ih (i + 1) _ (by omega) (by simp [h2]), List.range'_succ]
      simp
  rw [this n 0 [] (by omega) rfl, ← List.range_eq_range']
  simp
theorem impl_SumsOf_eq {u : Nat} (hu : 1099511627776 ≤ u) {b : List Int} (hb : M.isBytes b) (hl : b.length ≤ 1073741824) (size : Int) : impl_SumsOf u b size = some (M.sumsOf b size) := by
  unfold impl_SumsOf
  have hr := blocks_range size b.length
  rw [impl_Blocks_eq]
  simp only [Option.bind_some]
  rw [impl_SumsOf_l2_w u b size _ [] u (by omega) (by omega), walk_append (fun i => M.sumOf (M.blockAt b size i).1)]
  · rfl
  · intro i s k hi hs
    unfold impl_SumsOf_l2_b
    have h := blockAt_bytes hb size (i : Int)
    rw [impl_BlockAt_eq u hl]
    simp only [Option.bind_some]
    rw [impl_SumOf_eq hu h.1 (by omega)]
    simp only [Option.bind_some]
    rw [chk_dec (by simp; omega)]
    rfl
theorem spec_SumsOf_eq {u : Nat} (hu : 1099511627776 ≤ u) {b : List Int} (hb : M.isBytes b) (hl : b.length ≤ 1073741824) (size : Int) : spec_SumsOf u b size = some (M.sumsOf b size) := by
  unfold spec_SumsOf
  have hr := blocks_range size b.length
  rw [walk_0 (n := M.blocks size b.length) (fin := spec_SumsOf_j1 u) (body := fun i (s : List Sum) k => (spec_BlockAt u b size (i : Int)).bind fun r8 => (spec_SumOf u r8.1).bind fun r9 => (chk (decide ((s.length + ([r9]).length) * 16 ≤ 140737488355328))).bind fun _ => k (s ++ [r9]))
    (fun k (s : List Sum) i => spec_SumsOf_l2 u k b size s i) (by omega) (fun k s i => by rw [spec_SumsOf_l2, spec_Blocks_eq]; rfl) [] (by omega), walk_append (fun i => M.sumOf (M.blockAt b size i).1)]
  · rfl
  · intro i s k hi hs
    have h := blockAt_bytes hb size (i : Int)
    rw [spec_BlockAt_eq u hl]
    simp only [Option.bind_some]
    rw [spec_SumOf_eq hu h.1 (by omega)]
    simp only [Option.bind_some]
    rw [chk_dec (by simp; omega)]
    rfl
def M.manOf (gen : Int) (b : List Int) (size : Int) : Manifest := if M.within gen 1 1000000 && M.sizeOk size b.length then ⟨gen, size, b.length, M.sumsOf b size⟩ else ⟨0, 0, 0, []⟩
theorem impl_ManOf_eq {u : Nat} (hu : 1099511627776 ≤ u) {b : List Int} (hb : M.isBytes b) (hl : b.length ≤ 1073741824) (gen size : Int) : impl_ManOf u gen b size = some (M.manOf gen b size) := by
  unfold impl_ManOf impl_ManOf_j1 M.manOf
  simp only [impl_within_eq, impl_SizeOk_eq, Option.bind_some, impl_SumsOf_eq hu hb hl]
  cases M.within gen 1 1000000 <;> cases M.sizeOk size b.length <;> simp
theorem spec_ManOf_eq {u : Nat} (hu : 1099511627776 ≤ u) {b : List Int} (hb : M.isBytes b) (hl : b.length ≤ 1073741824) (gen size : Int) : spec_ManOf u gen b size = some (M.manOf gen b size) := by
  unfold spec_ManOf spec_ManOf_j1 M.manOf
  simp only [spec_l1In_eq, spec_SizeOk_eq, Option.bind_some, spec_SumsOf_eq hu hb hl]
  cases M.within gen 1 1000000 <;> cases M.sizeOk size b.length <;> simp
def M.sX : List Int → Int
  | [] => 0
  | c :: b => c + M.sX b
def M.sY : List Int → Int
  | [] => 0
  | c :: b => ((b.length : Int) + 1) * c + M.sY b
theorem weakS_sum : ∀ (b : List Int) (x y : Int), M.weakS b x y = match b with | [] => (x, y) | _ => ((x + M.sX b) % 251, (y + b.length * x + M.sY b) % 251) := by
  intro b
  induction b with
  | nil => intro x y; rfl
  | cons c b ih =>
    intro x y
    simp only [M.weakS]
    rw [ih]
    cases b with
    | nil => simp [M.sX, M.sY, Int.add_assoc]
    | cons d b =>
      simp only [M.sX, M.sY, List.length_cons]
      refine Prod.ext ?_ ?_
      · dsimp only; omega
      · dsimp only
        have e : ((b.length : Int) + 1) * ((x + c) % 251) % 251 = ((b.length : Int) + 1) * (x + c) % 251 := by rw [Int.mul_emod, Int.emod_emod_of_dvd _ (Int.dvd_refl 251), ← Int.mul_emod]
        have e1 : ((b.length : Int) + 1) * (x + c) = ((b.length : Int) + 1) * x + ((b.length : Int) + 1) * c := Int.mul_add _ _ _
        have e2 : ((b.length : Int) + 1 + 1) * x = ((b.length : Int) + 1) * x + x := by rw [Int.add_mul]; omega
        have e3 : ((b.length : Int) + 1 + 1) * c = ((b.length : Int) + 1) * c + c := by rw [Int.add_mul]; omega
        push_cast
        rw [e2, e3]
        rw [e1] at e
        generalize ((b.length : Int) + 1) * ((x + c) % 251) = p at *
        generalize ((b.length : Int) + 1) * x = q at *
        generalize ((b.length : Int) + 1) * c = r at *
        generalize ((b.length : Int) + 1) * d = t at *
        omega
theorem weakOf_sum {b : List Int} : M.weakOf b = M.sX b % 251 + 251 * (M.sY b % 251) := by
  unfold M.weakOf
  rw [weakS_sum]
  cases b with
  | nil => simp [M.sX, M.sY]
  | cons c b => dsimp only; simp
theorem sX_app (b : List Int) (d : Int) : M.sX (b ++ [d]) = M.sX b + d := by
  induction b with
  | nil => simp [M.sX]
  | cons c b ih => simp only [List.cons_append, M.sX, ih]; omega
theorem sY_app (b : List Int) (d : Int) : M.sY (b ++ [d]) = M.sY b + M.sX b + d := by
  induction b with
  | nil => simp [M.sX, M.sY]
  | cons c b ih =>
    simp only [List.cons_append, M.sX, M.sY, ih, List.length_append, List.length_singleton]
    push_cast
    rw [Int.add_mul ((b.length : Int) + 1) 1 c]
    omega
theorem spec_Wrap_eq (u : Nat) (n m : Int) : spec_Wrap u n m = some (if M.within m 1 1000000000000 then n % m else 0) := by
  unfold spec_Wrap
  simp only [spec_l1In_eq, Option.bind_some]
  cases h : M.within m 1 1000000000000 with
  | false => simp
  | true =>
    have h3 := within_t h
    have hb : (m == 0) = false := by simp; omega
    have h4 := tmod_range (n := n) (m := m) (by omega)
    simp only [hb, Bool.not_true, cond_false, Bool.not_false, chk_true, Option.bind_some]
    have e1 : bRem .i64 n m = n.tmod m := rfl
    rw [e1, bAdd_i64 (by omega) (by omega)]
    show some ((n.tmod m + m).tmod m) = _
    rw [tmod_wrap (by omega)]; simp
theorem spec_l3Ok_eq (u : Nat) (w : Int) : spec_l3Ok u w = some (M.within w 0 63000) := by simp [spec_l3Ok, spec_l1In_eq]
theorem spec_WeakHalves_eq (u : Nat) {w : Int} (h : M.within w 0 63000 = true) : spec_WeakHalves u w = some (w % 251, w / 251) := by
  unfold spec_WeakHalves
  have := within_t h
  rw [spec_l3Ok_eq, h]
  simp (disch := omega) [bRem_pos, bQuo_pos]
theorem spec_Roll_eq (u : Nat) {c d : Int} {m : List Int} (hc : 0 ≤ c ∧ c ≤ 255) (hd : 0 ≤ d ∧ d ≤ 255) (hm : m.length ≤ 5) : spec_Roll u (M.weakOf (c :: m)) ((m.length : Int) + 1) c d = some (M.weakOf (m ++ [d])) := by
  unfold spec_Roll spec_Roll_j1
  have h0 := weakOf_range (c :: m)
  have h1 : M.within (M.weakOf (c :: m)) 0 63000 = true := by simp [M.within]; omega
  have h2 : M.within ((m.length : Int) + 1) 1 1000000000000 = true := by simp [M.within]; omega
  have h3 : M.within c 0 255 = true := by simp [M.within]; omega
  have h4 : M.within d 0 255 = true := by simp [M.within]; omega
  have h5 : M.within 251 1 1000000000000 = true := by decide
  have h6 : ((m.length : Int) + 1) * c ≤ 6 * 255 := Int.mul_le_mul (by omega) (by omega) (by omega) (by omega)
  have h7 : 0 ≤ ((m.length : Int) + 1) * c := Int.mul_nonneg (by omega) (by omega)
  simp only [spec_l3Ok_eq, spec_l1In_eq, h1, h2, h3, h4, Option.bind_some, Bool.not_true, cond_false, spec_WeakHalves_eq u h1, spec_Wrap_eq, h5, if_true]
  rw [bRem_pos (by omega), Int.emod_eq_of_lt (a := (m.length : Int) + 1) (by omega) (by omega)]
  have e := weakOf_sum (b := c :: m)
  have e2 := weakOf_sum (b := m ++ [d])
  rw [e2, sX_app, sY_app]
  simp only [M.sX, M.sY] at e
  rw [bMul_i64 (a := (m.length : Int) + 1) (b := c) (by omega) (by omega)]
  generalize M.weakOf (c :: m) = w at *
  generalize ((m.length : Int) + 1) * c = q at *
  generalize M.sX m = sx at *
  generalize M.sY m = sy at *
  rw [bSub_i64 (a := w / 251) (by omega) (by omega), bSub_i64 (a := w % 251) (by omega) (by omega), bAdd_i64 (a := w % 251 - c) (by omega) (by omega)]
  rw [bAdd_i64 (a := (w / 251 - q) % 251) (by omega) (by omega)]
  rw [bMul_i64 (by omega) (by omega), bAdd_i64 (by omega) (by omega)]
  congr 1
  omega
theorem win_cons {b : List Int} {i n : Nat} {c : Int} (hc : b[i]? = some c) : M.win b i (n + 1) = c :: M.win b (i + 1) n := by
  rw [win_eq, win_eq]
  obtain ⟨h, rfl⟩ := List.getElem?_eq_some_iff.1 hc
  rw [List.drop_eq_getElem_cons h, List.take_succ_cons]
theorem win_snoc {b : List Int} {i n : Nat} {d : Int} (hd : b[i + n]? = some d) : M.win b i (n + 1) = M.win b i n ++ [d] := by
  rw [win_eq, win_eq, List.take_add_one]
  congr 1
  rw [List.getElem?_drop, hd]; rfl
def M.windows (b : List Int) (n : Nat) : List Int := if n ≤ b.length then (List.range (b.length + 1 - n)).map fun i => M.weakOf (M.win b i n) else []
theorem spec_Windows_l3_eq (u : Nat) {b : List Int} (hb : M.isBytes b) (hl : b.length ≤ 1073741824) {n : Nat} (h1 : 1 ≤ n) (h2 : n ≤ 6) : ∀ (m k j : Nat), n + j + m = b.length → m < k →
    spec_Windows_l3 u k b n ((List.range (j + 1)).map fun i => M.weakOf (M.win b i n)) (M.weakOf (M.win b j n)) ((n + j : Nat) : Int) = some ((List.range (j + 1 + m)).map fun i => M.weakOf (M.win b i n)) := by
  intro m
  induction m with
  | zero =>
    intro k j h3 h4
    obtain ⟨k, rfl⟩ : ∃ i, k = i + 1 := ⟨k - 1, by omega⟩
    unfold spec_Windows_l3
    have : ¬ (((n + j : Nat) : Int) < (b.length : Int)) := by omega
    simp only [this, decide_false, cond_false, spec_Windows_j2, Nat.add_zero]
  | succ m ih =>
    intro k j h3 h4
    obtain ⟨k, rfl⟩ : ∃ i, k = i + 1 := ⟨k - 1, by omega⟩
    unfold spec_Windows_l3
    have h5 : ((n + j : Nat) : Int) < (b.length : Int) := by omega
    have e : bSub .i64 ((n + j : Nat) : Int) (n : Int) = (j : Int) := by rw [bSub_i64 (by omega) (by omega)]; omega
    simp only [h5, decide_true, cond_true, e, idx_nat]
    have hc := List.getElem?_eq_getElem (l := b) (i := j) (by omega)
    have hd := List.getElem?_eq_getElem (l := b) (i := n + j) (by omega)
    rw [hc, hd]
    simp only [Option.bind_some]
    have hcb := hb _ (List.getElem_mem (l := b) (n := j) (by omega))
    have hdb := hb _ (List.getElem_mem (l := b) (n := n + j) (by omega))
    rw [wrap_i64 (n := b[j]) (by omega) (by omega), wrap_i64 (n := b[n + j]) (by omega) (by omega)]
    obtain ⟨n, rfl⟩ : ∃ i, n = i + 1 := ⟨n - 1, by omega⟩
    have e1 := win_cons (n := n) hc
    have e2 : M.win b (j + 1) (n + 1) = M.win b (j + 1) n ++ [b[n + 1 + j]] := win_snoc (by rw [show j + 1 + n = n + 1 + j by omega]; exact hd)
    have hw : (M.win b (j + 1) n).length = n := win_length (by omega)
    have hroll := spec_Roll_eq u (c := b[j]) (d := b[n + 1 + j]) (m := M.win b (j + 1) n) hcb hdb (by omega)
    rw [hw, ← e1, ← e2] at hroll
    rw [show ((n + 1 : Nat) : Int) = (n : Int) + 1 by omega, hroll]
    simp only [Option.bind_some]
    rw [chk_dec (by simp; omega)]
    simp only [Option.bind_some]
    rw [show (List.map (fun i => M.weakOf (M.win b i (n + 1))) (List.range (j + 1)) ++ [M.weakOf (M.win b (j + 1) (n + 1))]) = (List.range (j + 1 + 1)).map fun i => M.weakOf (M.win b i (n + 1)) by rw [List.range_succ (n := j + 1), List.map_append]; rfl]
    rw [bAdd_succ (by omega)]
    have := ih k (j + 1) (by omega) (by omega)
    rw [show ((n + 1 : Nat) : Int) = (n : Int) + 1 by omega] at this
    rw [show n + 1 + j + 1 = n + 1 + (j + 1) by omega, this, show j + 1 + 1 + m = j + 1 + (m + 1) by omega]
theorem spec_Windows_eq {u : Nat} (hu : 1099511627776 ≤ u) {b : List Int} (hb : M.isBytes b) (hl : b.length ≤ 1073741824) {n : Nat} (h1 : 1 ≤ n) (h2 : n ≤ 6) : spec_Windows u b n = some (M.windows b n) := by
  unfold spec_Windows spec_Windows_j1 M.windows
  have h3 : ¬ ((n : Int) < 1) := by omega
  simp only [h3, decide_false, cond_false]
  by_cases h4 : n ≤ b.length
  · have h5 : ¬ ((n : Int) > (b.length : Int)) := by omega
    simp only [h5, decide_false, cond_false, h4, if_true]
    rw [show (0 : Int) = ((0 : Nat) : Int) by rfl, sliceOK_nat (by omega) h4]
    simp only [Option.bind_some, Int.toNat_natCast]
    have e : List.drop 0 (List.take n b) = M.win b 0 n := by simp [M.win]
    rw [e, spec_WeakOf_eq hu (isBytes_win hb _ _) (by have := win_le b 0 n; omega)]
    simp only [Option.bind_some]
    rw [chk_dec (by simp)]
    have := spec_Windows_l3_eq u hb hl h1 h2 (b.length - n) u 0 (by omega) (by omega)
    simp only [Nat.add_zero, Nat.zero_add] at this
    rw [show (List.range 1).map (fun i => M.weakOf (M.win b i n)) = [M.weakOf (M.win b 0 n)] by rfl] at this
    simp only [Option.bind_some, List.nil_append]
    rw [this, show 1 + (b.length - n) = b.length + 1 - n by omega]
  · have h5 : ((n : Int) > (b.length : Int)) := by omega
    simp [h5, h4]
def M.findFrom (b : List Int) (s : Sum) (n : Nat) : Nat → Nat → Int
  | 0, _ => -1
  | c + 1, i => if M.sumOf (M.win b i n) = s then i else M.findFrom b s n c (i + 1)
def M.findSum (b : List Int) (s : Sum) (n : Int) : Int := if M.within n 1 6 then M.findFrom b s n.toNat (b.length + 1 - n.toNat) 0 else -1
theorem sum_beq (x y : Sum) : (([x.fW, x.fS] : List Int) == [y.fW, y.fS]) = decide (x = y) := by
  obtain ⟨a, b⟩ := x
  obtain ⟨c, d⟩ := y
  rw [Bool.eq_iff_iff]; simp
theorem impl_FindSum_l2_eq {u : Nat} (hu : 1099511627776 ≤ u) {b : List Int} (hb : M.isBytes b) (hl : b.length ≤ 1073741824) (s : Sum) {n : Nat} (h1 : 1 ≤ n) (h2 : n ≤ 6) : ∀ (c k i : Nat), i + c = b.length + 1 - n ∨ (c = 0 ∧ b.length + 1 - n ≤ i) → i ≤ 1073741824 → c < k →
    impl_FindSum_l2 u k b n i s = some (M.findFrom b s n c i) := by
  intro c
  induction c with
  | zero =>
    intro k i h3 hi h4
    obtain ⟨k, rfl⟩ : ∃ i, k = i + 1 := ⟨k - 1, by omega⟩
    unfold impl_FindSum_l2
    rw [bAdd_nat (by omega)]
    have : ¬ (((i + n : Nat) : Int) ≤ (b.length : Int)) := by omega
    simp only [this, decide_false, cond_false, impl_FindSum_j1, M.findFrom]
  | succ c ih =>
    intro k i h3 hi h4
    obtain ⟨k, rfl⟩ : ∃ i, k = i + 1 := ⟨k - 1, by omega⟩
    unfold impl_FindSum_l2
    rw [bAdd_nat (by omega)]
    have h5 : (((i + n : Nat) : Int) ≤ (b.length : Int)) := by omega
    simp only [h5, decide_true, cond_true, Int.toNat_natCast]
    rw [sliceOK_nat (by omega) (by omega)]
    simp only [Option.bind_some]
    change ((impl_SumOf u (M.win b i n)).bind _) = _
    rw [impl_SumOf_eq hu (isBytes_win hb _ _) (by have := win_le b i n; omega)]
    simp only [Option.bind_some, sum_beq, M.findFrom]
    by_cases h6 : M.sumOf (M.win b i n) = s
    · simp [h6]
    · simp only [h6, decide_false, cond_false, if_false]
      rw [bAdd_succ (by omega)]
      exact ih k (i + 1) (by omega) (by omega) (by omega)
theorem impl_FindSum_eq {u : Nat} (hu : 1099511627776 ≤ u) {b : List Int} (hb : M.isBytes b) (hl : b.length ≤ 1073741823) (s : Sum) (n : Int) : impl_FindSum u b s n = some (M.findSum b s n) := by
  unfold impl_FindSum M.findSum
  rw [impl_within_eq]
  simp only [Option.bind_some]
  cases h : M.within n 1 6 with
  | false => simp
  | true =>
    have h := within_t h
    obtain ⟨n, rfl⟩ := Int.eq_ofNat_of_zero_le (show 0 ≤ n by omega)
    simp only [Bool.not_true, cond_false, if_true, Int.toNat_natCast]
    exact impl_FindSum_l2_eq hu hb (by omega) s (by omega) (by omega) (b.length + 1 - n) u 0 (by omega) (by omega) (by omega)
theorem sumOf_weak {b : List Int} (h : b.length ≤ 6) : (M.sumOf b).fW = M.weakOf b := by
  unfold M.sumOf; rw [if_neg (by omega)]
theorem spec_FindSum_l2_eq {u : Nat} (hu : 1099511627776 ≤ u) {b : List Int} (hb : M.isBytes b) (hl : b.length ≤ 1073741823) (s : Sum) {n : Nat} (h1 : 1 ≤ n) (h2 : n ≤ 6) : ∀ (c k i : Nat), i + c = b.length + 1 - n → c < k →
    spec_FindSum_l2 u k b n (M.windows b n) i s = some (M.findFrom b s n c i) := by
  have hlen : (M.windows b n).length = b.length + 1 - n := by
    unfold M.windows
    split
    · simp
    · simp; omega
  intro c
  induction c with
  | zero =>
    intro k i h3 h4
    obtain ⟨k, rfl⟩ : ∃ i, k = i + 1 := ⟨k - 1, by omega⟩
    unfold spec_FindSum_l2
    have : ¬ ((i : Int) < ((M.windows b n).length : Int)) := by omega
    simp only [this, decide_false, cond_false, spec_FindSum_j1, M.findFrom]
  | succ c ih =>
    intro k i h3 h4
    obtain ⟨k, rfl⟩ : ∃ i, k = i + 1 := ⟨k - 1, by omega⟩
    unfold spec_FindSum_l2
    have h5 : ((i : Int) < ((M.windows b n).length : Int)) := by omega
    have hx : (M.windows b n)[i]? = some (M.weakOf (M.win b i n)) := by
      unfold M.windows
      rw [if_pos (by omega), List.getElem?_map, List.getElem?_range (by omega)]; rfl
    simp only [h5, decide_true, cond_true, idx_nat, hx, Option.bind_some]
    rw [bAdd_nat (by omega), sliceOK_nat (by omega) (by omega)]
    simp only [Option.bind_some, Int.toNat_natCast]
    change (bif _ then ((spec_SumOf u (M.win b i n)).bind _) else _) = _
    rw [spec_SumOf_eq hu (isBytes_win hb _ _) (by have := win_le b i n; omega)]
    simp only [Option.bind_some, sum_beq, M.findFrom, spec_FindSum_j3, cond_false, bAdd_succ (show i < 9223372036854775807 by omega), ih k (i + 1) (by omega) (by omega)]
    by_cases h6 : M.sumOf (M.win b i n) = s
    · have h7 : M.weakOf (M.win b i n) = s.fW := by rw [← h6, sumOf_weak (by have := win_le b i n; omega)]
      simp [h6, h7]
    · cases M.weakOf (M.win b i n) == s.fW <;> simp [h6]
theorem spec_FindSum_eq {u : Nat} (hu : 1099511627776 ≤ u) {b : List Int} (hb : M.isBytes b) (hl : b.length ≤ 1073741823) (s : Sum) (n : Int) : spec_FindSum u b s n = some (M.findSum b s n) := by
  unfold spec_FindSum M.findSum
  rw [spec_l1In_eq]
  simp only [Option.bind_some]
  cases h : M.within n 1 6 with
  | false => simp
  | true =>
    have h := within_t h
    obtain ⟨n, rfl⟩ := Int.eq_ofNat_of_zero_le (show 0 ≤ n by omega)
    simp only [Bool.not_true, cond_false, if_true, Int.toNat_natCast]
    rw [spec_Windows_eq hu hb (by omega) (by omega) (by omega)]
    exact spec_FindSum_l2_eq hu hb (by omega) s (by omega) (by omega) (b.length + 1 - n) u 0 (by omega) (by omega)
def M.placeOf (b : List Int) (m : Manifest) (i : Nat) : Int := match m.fSums[i]? with
  | some s => M.findSum b s (M.spanOf m.fSize m.fLen i).2
  | none => -1
theorem impl_PlaceOf_eq {u : Nat} (hu : 1099511627776 ≤ u) {b : List Int} (hb : M.isBytes b) (hl : b.length ≤ 1073741823) {m : Manifest} (hm : m.fSums.length ≤ 1073741824) (i : Nat) : impl_PlaceOf u b m i = some (M.placeOf b m i) := by
  unfold impl_PlaceOf M.placeOf
  rw [impl_SpanOf_eq]
  simp only [Option.bind_some]
  rw [bSub_i64 (by omega) (by omega), impl_within_eq]
  by_cases h : i < m.fSums.length
  · have h1 : M.within (i : Int) 0 ((m.fSums.length : Int) - 1) = true := by simp [M.within]; omega
    simp only [h1, Option.bind_some, Bool.not_true, cond_false, idx_nat, List.getElem?_eq_getElem h, impl_FindSum_eq hu hb hl]
  · have h1 : M.within (i : Int) 0 ((m.fSums.length : Int) - 1) = false := by simp [M.within]; omega
    simp only [h1, Option.bind_some, Bool.not_false, cond_true, List.getElem?_eq_none (show m.fSums.length ≤ i by omega)]
theorem spec_PlaceOf_eq {u : Nat} (hu : 1099511627776 ≤ u) {b : List Int} (hb : M.isBytes b) (hl : b.length ≤ 1073741823) {m : Manifest} (hm : m.fSums.length ≤ 1073741824) (i : Nat) : spec_PlaceOf u b m i = some (M.placeOf b m i) := by
  unfold spec_PlaceOf spec_PlaceOf_j1 M.placeOf
  rw [spec_SpanOf_eq]
  simp only [Option.bind_some, spec_FindSum_eq hu hb hl, idx_nat]
  by_cases h : i < m.fSums.length
  · have h1 : ¬ ((i : Int) ≥ (m.fSums.length : Int)) := by omega
    simp only [List.getElem?_eq_getElem h, Option.bind_some, h1, decide_false, cond_false, cond_true]
    by_cases h2 : (M.spanOf m.fSize m.fLen i).2 = 0
    · have : M.findSum b m.fSums[i] 0 = -1 := by simp [M.findSum, M.within]
      simp [h2, this]
    · have : ((M.spanOf m.fSize m.fLen i).2 == 0) = false := by simpa using h2
      simp [this]
  · have h1 : ((i : Int) ≥ (m.fSums.length : Int)) := by omega
    simp only [List.getElem?_eq_none (show m.fSums.length ≤ i by omega), h1, decide_true, cond_true]
    cases ((M.spanOf m.fSize m.fLen i).2 == 0) <;> simp
def M.has (b : List Int) (m : Manifest) (i : Nat) : Bool := decide (0 ≤ M.placeOf b m i)
def M.placed (b : List Int) (m : Manifest) (x : Bool) : Nat := M.setBy (min m.fSums.length 40) (fun i => M.has b m i == x)
theorem walk_set {ρ : Type} {fin : Int → Option ρ} {body : Nat → Int → (Int → Option ρ) → Option ρ} (f : Nat → Bool) (n : Nat) (hb : ∀ i k, i < n → body i (M.setBy i f : Nat) k = k (M.setBy (i + 1) f : Nat)) :
    walk fin body n 0 0 = fin (M.setBy n f : Nat) := by
  have : ∀ (m i : Nat), i + m = n → walk fin body m i (M.setBy i f : Nat) = fin (M.setBy n f : Nat) := by
    intro m
    induction m with
    | zero => intro i h; simp only [walk]; rw [show i = n by omega]
    | succ m ih =>
      intro i h
      simp only [walk]
      rw [hb i _ (by omega)]
      exact ih (i + 1) (by omega)
  exact this n 0 (by omega)
theorem setBy_step {f : Nat → Bool} {i : Nat} (h : i ≤ 39) : bOr .i64 (M.setBy i f : Nat) (bShl .i64 1 (i : Int)) = ((M.setBy i f ||| 2 ^ i : Nat) : Int) := by
  rw [bShl1_nat (by omega)]
  have h1 := setBy_lt f i
  have h2 : (2 : Nat) ^ i ≤ 2 ^ 39 := Nat.pow_le_pow_right (by omega) h
  generalize (2 : Nat) ^ i = p at *
  exact bOr_nat (by omega) (by omega)
theorem impl_placed_eq {u : Nat} (hu : 1099511627776 ≤ u) {b : List Int} (hb : M.isBytes b) (hl : b.length ≤ 1073741823) {m : Manifest} (hm : m.fSums.length ≤ 1073741824) (x : Bool) : impl_placed u b m x = some ((M.placed b m x : Nat) : Int) := by
  unfold impl_placed
  have e : (if ((m.fSums.length : Int)) < 40 then ((m.fSums.length : Int)) else 40) = ((min m.fSums.length 40 : Nat) : Int) := by split <;> omega
  rw [impl_placed_l2_w u b x m 0 u (by rw [e]; omega) (by rw [e]; omega), e, Int.toNat_natCast, walk_set (fun i => M.has b m i == x)]
  · rfl
  · intro i k hi
    unfold impl_placed_l2_b
    rw [impl_PlaceOf_eq hu hb hl hm]
    simp only [Option.bind_some, M.setBy]
    have e2 : decide (M.placeOf b m i ≥ 0) = M.has b m i := rfl
    rw [e2, chk_dec (by omega), setBy_step (by omega)]
    by_cases h : (M.has b m i == x) = true
    · simp only [h, cond_true, Option.bind_some, impl_placed_j3, if_true]
    · simp only [h, Bool.not_eq_true] at h ⊢
      simp only [h, cond_false, impl_placed_j3, Bool.false_eq_true, if_false, Nat.or_zero]
theorem impl_Lacking_eq {u : Nat} (hu : 1099511627776 ≤ u) {b : List Int} (hb : M.isBytes b) (hl : b.length ≤ 1073741823) {m : Manifest} (hm : m.fSums.length ≤ 1073741824) : impl_Lacking u b m = some ((M.placed b m false : Nat) : Int) := by
  unfold impl_Lacking
  rw [impl_placed_eq hu hb hl hm]; rfl
theorem placed_range (b : List Int) (m : Manifest) (x : Bool) : M.placed b m x < 1099511627776 := by
  have h1 := setBy_lt (fun i => M.has b m i == x) (min m.fSums.length 40)
  have h2 : (2 : Nat) ^ (min m.fSums.length 40) ≤ 2 ^ 40 := Nat.pow_le_pow_right (by omega) (by omega)
  exact Nat.lt_of_lt_of_le h1 h2
theorem setOk_nat {s : Nat} (h : s < 1099511627776) : M.setOk (s : Int) = true := by simp [M.setOk, M.within]; omega
theorem spec_WithPart_eq (u : Nat) {f : Nat → Bool} {i : Nat} (h : i ≤ 39) : spec_WithPart u (M.setBy i f : Nat) i = some ((M.setBy i f ||| 2 ^ i : Nat) : Int) := by
  unfold spec_WithPart spec_WithPart_j1
  have h1 := setBy_lt f i
  have h2 : (2 : Nat) ^ i ≤ 2 ^ 39 := Nat.pow_le_pow_right (by omega) h
  rw [spec_SetOk_eq, setOk_nat (Nat.lt_of_lt_of_le h1 (by omega)), spec_l1In_eq]
  have h3 : M.within (i : Int) 0 39 = true := by simp [M.within]; omega
  simp only [Option.bind_some, Bool.not_true, cond_false, h3]
  rw [chk_dec (by omega), setBy_step h]; rfl
theorem spec_Found_l2_eq {u : Nat} (hu : 1099511627776 ≤ u) {b : List Int} (hb : M.isBytes b) (hl : b.length ≤ 1073741823) {m : Manifest} (hm : m.fSums.length ≤ 1073741824) : ∀ (c k i : Nat), i + c = min m.fSums.length 40 → c < k →
    spec_Found_l2 u k b (M.setBy i (fun i => M.has b m i == true) : Nat) i m = some ((M.placed b m true : Nat) : Int) := by
  intro c
  induction c with
  | zero =>
    intro k i h3 h4
    obtain ⟨k, rfl⟩ : ∃ i, k = i + 1 := ⟨k - 1, by omega⟩
    unfold spec_Found_l2 spec_Found_j3 spec_Found_j1 M.placed
    rw [show i = min m.fSums.length 40 by omega]
    by_cases h5 : m.fSums.length < 40
    · have h6 : ¬ (((min m.fSums.length 40 : Nat) : Int) < (m.fSums.length : Int)) := by omega
      simp only [h6, decide_false, cond_false]
    · have h6 : ¬ (((min m.fSums.length 40 : Nat) : Int) < 40) := by omega
      simp only [h6, decide_false, cond_false]
      cases decide (((min m.fSums.length 40 : Nat) : Int) < (m.fSums.length : Int)) <;> rfl
  | succ c ih =>
    intro k i h3 h4
    obtain ⟨k, rfl⟩ : ∃ i, k = i + 1 := ⟨k - 1, by omega⟩
    unfold spec_Found_l2 spec_Found_j3 spec_Found_j4
    have h5 : (i : Int) < (m.fSums.length : Int) := by omega
    have h6 : (i : Int) < 40 := by omega
    simp only [h5, h6, decide_true, cond_true, spec_PlaceOf_eq hu hb hl hm, Option.bind_some]
    have e2 : decide (M.placeOf b m i ≥ 0) = M.has b m i := rfl
    rw [e2, spec_WithPart_eq u (by omega), bAdd_succ (by omega)]
    have := ih k (i + 1) (by omega) (by omega)
    rw [M.setBy] at this
    cases h : M.has b m i with
    | false =>
      rw [h, if_neg (by decide), Nat.or_zero] at this
      simp only [cond_false]; exact this
    | true =>
      rw [h, if_pos (by decide)] at this
      simp only [cond_true, Option.bind_some]; exact this
theorem spec_Found_eq {u : Nat} (hu : 1099511627776 ≤ u) {b : List Int} (hb : M.isBytes b) (hl : b.length ≤ 1073741823) {m : Manifest} (hm : m.fSums.length ≤ 1073741824) : spec_Found u b m = some ((M.placed b m true : Nat) : Int) :=
  spec_Found_l2_eq hu hb hl hm (min m.fSums.length 40) u 0 (by omega) (by omega)
theorem spec_FullSet_eq (u : Nat) {n : Nat} (h : n ≤ 40) : spec_FullSet u n = some ((2 ^ n - 1 : Nat) : Int) := by
  unfold spec_FullSet
  have h1 : M.within (n : Int) 0 40 = true := by simp [M.within]; omega
  rw [spec_l1In_eq, h1]
  simp only [Option.bind_some, Bool.not_true, cond_false]
  have h2 : (2 : Nat) ^ n ≤ 2 ^ 40 := Nat.pow_le_pow_right (by omega) h
  have h3 : 0 < (2 : Nat) ^ n := Nat.pow_pos (by omega)
  rw [chk_dec (by omega), bShl1_nat (by omega)]
  generalize (2 : Nat) ^ n = p at *
  rw [bSub_i64 (by omega) (by omega)]
  simp only [Option.bind_some]
  congr 1
  omega
theorem spec_Lacking_eq {u : Nat} (hu : 1099511627776 ≤ u) {b : List Int} (hb : M.isBytes b) (hl : b.length ≤ 1073741823) {m : Manifest} (hm : m.fSums.length ≤ 1073741824) : spec_Lacking u b m = some ((M.placed b m false : Nat) : Int) := by
  unfold spec_Lacking spec_Without spec_Without_j1
  have hn : (min (m.fSums.length : Int) 40) = ((min m.fSums.length 40 : Nat) : Int) := by omega
  rw [spec_Least_eq, hn]
  simp only [Option.bind_some]
  rw [spec_FullSet_eq u (by omega), spec_Found_eq hu hb hl hm]
  have h2 : (2 : Nat) ^ (min m.fSums.length 40) ≤ 2 ^ 40 := Nat.pow_le_pow_right (by omega) (by omega)
  have h3 : 0 < (2 : Nat) ^ (min m.fSums.length 40) := Nat.pow_pos (by omega)
  have hp := placed_range b m true
  simp only [Option.bind_some, spec_SetOk_eq, setOk_nat hp, setOk_nat (show 2 ^ (min m.fSums.length 40) - 1 < 1099511627776 by omega), Bool.not_true, cond_false]
  have h4 : M.placed b m true < 2 ^ (min m.fSums.length 40) := setBy_lt _ _
  rw [bAndNot_nat (n := min m.fSums.length 40) (by omega) (by omega) h4]
  refine congrArg (fun z : Nat => some (z : Int)) ?_
  unfold M.placed
  apply setBy_congr
  intro i hi
  rw [testBit_setBy, Nat.testBit_two_pow_sub_one]
  simp [hi]
def M.lenOf (m : Manifest) : List Int → Int
  | [] => 0
  | i :: l => (M.spanOf m.fSize m.fLen i).2 + M.lenOf m l
def M.bytesLacking (b : List Int) (m : Manifest) : Int := M.lenOf m (M.partsIn (M.placed b m false : Nat))
theorem spanOf_len (size n i : Int) : -1000 ≤ (M.spanOf size n i).2 ∧ (M.spanOf size n i).2 ≤ 6 := by
  unfold M.spanOf
  split
  · rename_i h
    have ⟨h1, h2, h3⟩ := blocks_ok h
    have h4 := sizeOk_t h1
    have h6 := mul_range h4.1 h4.2.1 h2 h3
    dsimp only; omega
  · dsimp only; omega
theorem partsIn_length (s : Int) : (M.partsIn s).length ≤ 40 := by
  unfold M.partsIn
  split
  · rw [List.length_map]
    have := List.length_filter_le (fun i => s.toNat.testBit i) (List.range 40)
    simpa using this
  · simp
theorem lenOf_range (m : Manifest) : ∀ l : List Int, -1000 * l.length ≤ M.lenOf m l ∧ M.lenOf m l ≤ 6 * l.length := by
  intro l
  induction l with
  | nil => simp [M.lenOf]
  | cons i l ih =>
    have := spanOf_len m.fSize m.fLen i
    simp only [M.lenOf, List.length_cons]
    omega
theorem impl_BytesLacking_w (u : Nat) (r : List Int) (m : Manifest) : ∀ (l : List Int) (i : Nat) (a : Int), l.length ≤ 1000 → -100000000 + 1000 * l.length ≤ a → a ≤ 100000000 - 6 * l.length → wlist (impl_BytesLacking_l2_f u r m) (impl_BytesLacking_l2_b u r m) l i a = some (a + M.lenOf m l) := by
  intro l
  induction l with
  | nil => intro i a _ _ _; simp [wlist, impl_BytesLacking_l2_f, impl_BytesLacking_j1, M.lenOf]
  | cons j l ih =>
    intro i a h0 h1 h2
    have := spanOf_len m.fSize m.fLen j
    simp only [List.length_cons] at h0 h1 h2
    simp only [wlist, impl_BytesLacking_l2_b, impl_SpanOf_eq, Option.bind_some, M.lenOf]
    rw [bAdd_i64 (by omega) (by omega), ih (i + 1) _ (by omega) (by omega) (by omega), Int.add_assoc]
theorem spec_BytesLacking_w (u : Nat) (r : List Int) (m : Manifest) : ∀ (l : List Int) (i : Nat) (a : Int), l.length ≤ 1000 → -100000000 + 1000 * l.length ≤ a → a ≤ 100000000 - 6 * l.length → wlist (spec_BytesLacking_l2_f u r m) (spec_BytesLacking_l2_b u r m) l i a = some (a + M.lenOf m l) := by
  intro l
  induction l with
  | nil => intro i a _ _ _; simp [wlist, spec_BytesLacking_l2_f, spec_BytesLacking_j1, M.lenOf]
  | cons j l ih =>
    intro i a h0 h1 h2
    have := spanOf_len m.fSize m.fLen j
    simp only [List.length_cons] at h0 h1 h2
    simp only [wlist, spec_BytesLacking_l2_b, spec_SpanOf_eq, Option.bind_some, M.lenOf]
    rw [bAdd_i64 (by omega) (by omega), ih (i + 1) _ (by omega) (by omega) (by omega), Int.add_assoc]
theorem impl_BytesLacking_eq {u : Nat} (hu : 1099511627776 ≤ u) {b : List Int} (hb : M.isBytes b) (hl : b.length ≤ 1073741823) {m : Manifest} (hm : m.fSums.length ≤ 1073741824) : impl_BytesLacking u b m = some (M.bytesLacking b m) := by
  unfold impl_BytesLacking
  rw [impl_Lacking_eq hu hb hl hm]
  simp only [Option.bind_some, impl_PartsIn_eq hu]
  have h := partsIn_length (M.placed b m false : Nat)
  rw [impl_BytesLacking_l2_w u _ m 0 u (by omega) (by omega), impl_BytesLacking_w u _ m _ 0 0 (by omega) (by omega) (by omega)]
  simp [M.bytesLacking]
theorem spec_BytesLacking_eq {u : Nat} (hu : 1099511627776 ≤ u) {b : List Int} (hb : M.isBytes b) (hl : b.length ≤ 1073741823) {m : Manifest} (hm : m.fSums.length ≤ 1073741824) : spec_BytesLacking u b m = some (M.bytesLacking b m) := by
  unfold spec_BytesLacking
  rw [spec_Lacking_eq hu hb hl hm]
  simp only [Option.bind_some, spec_PartsIn_eq hu]
  have h := partsIn_length (M.placed b m false : Nat)
  rw [spec_BytesLacking_l2_w u _ m 0 u (by omega) (by omega), spec_BytesLacking_w u _ m _ 0 0 (by omega) (by omega) (by omega)]
  simp [M.bytesLacking]
theorem bytesLacking_range (b : List Int) (m : Manifest) : -40000 ≤ M.bytesLacking b m ∧ M.bytesLacking b m ≤ 240 := by
  have h := partsIn_length (M.placed b m false : Nat)
  have := lenOf_range m (M.partsIn (M.placed b m false : Nat))
  unfold M.bytesLacking; omega
theorem manOf_len (gen : Int) (b : List Int) (size : Int) : (M.manOf gen b size).fSums.length ≤ 40 := by
  unfold M.manOf
  split
  · have := blocks_range size b.length
    simp [M.sumsOf]; omega
  · simp
theorem bytes_wf {b : List Int} (h : wSl (wInt .u8) b) : M.isBytes b := fun x hx => h.2 x hx
def M.imgsOk (old : List Image) : Prop := ∀ x ∈ old, M.isBytes x.fB ∧ x.fB.length ≤ 1048576
theorem imgs_wf {l : List Image} (h : wSl Image.wf l) (hb : bulkL Image.bulk l ≤ 1048576) : M.imgsOk l := fun x hx => by
  have h1 : x.fB.length ≤ bulkL Image.bulk l := bulkL_mem (f := Image.bulk) hx
  exact ⟨bytes_wf (h.2 x hx).1, by omega⟩
def M.nodesOk (l : List Node) : Prop := ∀ x ∈ l, x.fMan.fSums.length ≤ 1048576 ∧ x.fKids.length ≤ 1048576
def M.disksOk (l : List Disk) : Prop := ∀ x ∈ l, x.fP.length ≤ 1048576
structure M.WorldOk (w : World) : Prop where
  up : w.fT.fUp.length ≤ 1048576
  new : w.fNew.length ≤ 1048576
  old : w.fOld.length ≤ 1048576
  oldB : M.imgsOk w.fOld
  n : w.fN.length ≤ 1048576
  nodes : M.nodesOk w.fN
  d : w.fD.length ≤ 1048576
  disks : M.disksOk w.fD
  net : w.fNet.length ≤ 1048576
  log : w.fLog.length ≤ 1048576
theorem worldOk {w : World} (hw : World.wf w) (hb : World.bulk w ≤ 1048576) : M.WorldOk w := by
  have h0 := hb
  unfold World.bulk at h0
  have h1 := bulkL_len (f := Image.bulk) w.fOld
  have h2 := bulkL_len (f := Node.bulk) w.fN
  have h3 := bulkL_len (f := Disk.bulk) w.fD
  have h4 := bulkL_len (f := Packet.bulk) w.fNet
  obtain ⟨_, _, _, h5, _⟩ := hw
  have e1 : Tree.bulk w.fT = w.fT.fUp.length := rfl
  refine ⟨by omega, by omega, by omega, imgs_wf h5 (by omega), by omega, fun x hx => ?_, by omega, fun x hx => ?_, by omega, by omega⟩
  · have h6 := bulkL_mem (f := Node.bulk) hx
    unfold Node.bulk Manifest.bulk at h6
    have h7 : Node.bulk x = x.fMan.fSums.length + (x.fBld.fBuf.length + x.fKids.length) := rfl
    have h8 := bulkL_mem (f := Node.bulk) hx
    omega
  · have h8 := bulkL_mem (f := Disk.bulk) hx
    have h7 : Disk.bulk x = x.fA.length + (x.fB.length + bulkL Put.bulk x.fP) := rfl
    have h9 := bulkL_len (f := Put.bulk) x.fP
    omega
structure M.NdOk (w : World) : Prop where
  new : M.isBytes w.fNew
  newL : w.fNew.length ≤ 1048576
  old : w.fOld.length ≤ 1048576
  oldB : M.imgsOk w.fOld
theorem ndOk {w : World} (hw : World.wf w) (h : World.bulk w ≤ 1048576) : M.NdOk w := ⟨bytes_wf hw.2.2.1, (worldOk hw h).new, (worldOk hw h).old, (worldOk hw h).oldB⟩
def M.manIn (w : World) : Manifest := M.manOf 1 w.fNew w.fC.fSize
theorem impl_ManIn_eq {u : Nat} (hu : 1099511627776 ≤ u) {w : World} (hw : M.NdOk w) : impl_ManIn u w = some (M.manIn w) := by
  unfold impl_ManIn
  have := hw.newL
  rw [impl_ManOf_eq hu hw.new (by omega)]; rfl
theorem spec_ManIn_eq {u : Nat} (hu : 1099511627776 ≤ u) {w : World} (hw : M.NdOk w) : spec_ManIn u w = some (M.manIn w) := by
  unfold spec_ManIn
  have := hw.newL
  rw [spec_ManOf_eq hu hw.new (by omega)]; rfl
def M.needOf (w : World) (k : Int) : Int := if M.within k 0 ((w.fOld.length : Int) - 1) then match w.fOld[k.toNat]? with | some x => M.bytesLacking x.fB (M.manIn w) | none => 0 else 0
theorem impl_NeedOf_eq {u : Nat} (hu : 1099511627776 ≤ u) {w : World} (hw : M.NdOk w) (k : Int) : impl_NeedOf u w k = some (M.needOf w k) := by
  unfold impl_NeedOf M.needOf
  have h1 := hw.old
  have h2 := manOf_len 1 w.fNew w.fC.fSize
  rw [bSub_i64 (by omega) (by omega), impl_within_eq]
  simp only [Option.bind_some]
  cases h : M.within k 0 ((w.fOld.length : Int) - 1) with
  | false => rfl
  | true =>
    have h := within_t h
    obtain ⟨n, rfl⟩ := Int.eq_ofNat_of_zero_le h.1
    have e2 := List.getElem?_eq_getElem (l := w.fOld) (i := n) (by omega)
    have hx := hw.oldB _ (List.getElem_mem (l := w.fOld) (n := n) (by omega))
    simp only [Bool.not_true, cond_false, idx_nat, e2, Option.bind_some, impl_ManIn_eq hu hw, if_true, Int.toNat_natCast]
    rw [impl_BytesLacking_eq hu hx.1 (by omega) (show (M.manIn w).fSums.length ≤ 1073741824 by unfold M.manIn; omega)]; rfl
theorem spec_NeedOf_eq {u : Nat} (hu : 1099511627776 ≤ u) {w : World} (hw : M.NdOk w) (k : Int) : spec_NeedOf u w k = some (M.needOf w k) := by
  unfold spec_NeedOf M.needOf
  have h1 := hw.old
  have h2 := manOf_len 1 w.fNew w.fC.fSize
  rw [bSub_i64 (by omega) (by omega), spec_l1In_eq]
  simp only [Option.bind_some]
  cases h : M.within k 0 ((w.fOld.length : Int) - 1) with
  | false => rfl
  | true =>
    have h := within_t h
    obtain ⟨n, rfl⟩ := Int.eq_ofNat_of_zero_le h.1
    have e2 := List.getElem?_eq_getElem (l := w.fOld) (i := n) (by omega)
    have hx := hw.oldB _ (List.getElem_mem (l := w.fOld) (n := n) (by omega))
    simp only [Bool.not_true, cond_false, idx_nat, e2, Option.bind_some, spec_ManIn_eq hu hw, if_true, Int.toNat_natCast]
    rw [spec_BytesLacking_eq hu hx.1 (by omega) (show (M.manIn w).fSums.length ≤ 1073741824 by unfold M.manIn; omega)]; rfl
theorem needOf_range (w : World) (k : Int) : -40000 ≤ M.needOf w k ∧ M.needOf w k ≤ 240 := by
  unfold M.needOf
  split
  · split
    · exact bytesLacking_range _ _
    · omega
  · omega
def M.needS (w : World) : Nat → Nat → Int → Int
  | 0, _, a => a
  | n + 1, i, a => M.needS w n (i + 1) (a + M.needOf w i)
theorem impl_NeedAll_w {u : Nat} (hu : 1099511627776 ≤ u) {w : World} (hw : M.NdOk w) : ∀ (m i k : Nat) (a : Int), i + m = w.fOld.length → m < k → -1000000000000 + 40000 * m ≤ a → a ≤ 1000000000000 - 240 * m → impl_NeedAll_l2 u k a i w = some (M.needS w m i a) := by
  intro m
  have ho := hw.old
  induction m with
  | zero =>
    intro i k a h1 h2 h3 h4
    obtain ⟨k, rfl⟩ : ∃ j, k = j + 1 := ⟨k - 1, by omega⟩
    have e : ¬ ((i : Int) < (w.fOld.length : Int)) := by omega
    unfold impl_NeedAll_l2 impl_NeedAll_j1
    simp only [e, decide_false, cond_false]; rfl
  | succ m ih =>
    intro i k a h1 h2 h3 h4
    obtain ⟨k, rfl⟩ : ∃ j, k = j + 1 := ⟨k - 1, by omega⟩
    have e : (i : Int) < (w.fOld.length : Int) := by omega
    have hr := needOf_range w i
    unfold impl_NeedAll_l2
    simp only [e, decide_true, cond_true, impl_NeedOf_eq hu hw, Option.bind_some]
    rw [bAdd_i64 (by omega) (by omega), bAdd_succ (by omega)]
    exact ih (i + 1) k _ (by omega) (by omega) (by omega) (by omega)
theorem spec_NeedAll_w {u : Nat} (hu : 1099511627776 ≤ u) {w : World} (hw : M.NdOk w) : ∀ (m i k : Nat) (a : Int), i + m = w.fOld.length → m < k → -1000000000000 + 40000 * m ≤ a → a ≤ 1000000000000 - 240 * m → spec_NeedAll_l2 u k a i w = some (M.needS w m i a) := by
  intro m
  have ho := hw.old
  induction m with
  | zero =>
    intro i k a h1 h2 h3 h4
    obtain ⟨k, rfl⟩ : ∃ j, k = j + 1 := ⟨k - 1, by omega⟩
    have e : ¬ ((i : Int) < (w.fOld.length : Int)) := by omega
    unfold spec_NeedAll_l2 spec_NeedAll_j1
    simp only [e, decide_false, cond_false]; rfl
  | succ m ih =>
    intro i k a h1 h2 h3 h4
    obtain ⟨k, rfl⟩ : ∃ j, k = j + 1 := ⟨k - 1, by omega⟩
    have e : (i : Int) < (w.fOld.length : Int) := by omega
    have hr := needOf_range w i
    unfold spec_NeedAll_l2
    simp only [e, decide_true, cond_true, spec_NeedOf_eq hu hw, Option.bind_some]
    rw [bAdd_i64 (by omega) (by omega), bAdd_succ (by omega)]
    exact ih (i + 1) k _ (by omega) (by omega) (by omega) (by omega)
theorem NeedAll_same {u : Nat} (hu : 1099511627776 ≤ u) {p0 : World} (w0 : World.wf p0) (b0 : World.bulk p0 ≤ 1048576) : ∃ v, spec_NeedAll u p0 = some v ∧ impl_NeedAll u p0 = some v := by
  have hw := ndOk w0 b0
  have ho := hw.old
  unfold spec_NeedAll impl_NeedAll
  cases h : p0.fOld.length with
  | zero =>
    obtain ⟨k, rfl⟩ : ∃ j, u = j + 1 := ⟨u - 1, by omega⟩
    have e : ¬ ((1 : Int) < (p0.fOld.length : Int)) := by omega
    unfold spec_NeedAll_l2 impl_NeedAll_l2
    simp only [e, decide_false, cond_false]
    exact ⟨_, rfl, rfl⟩
  | succ n =>
    have a1 := spec_NeedAll_w hu hw n 1 u 0 (by omega) (by omega) (by omega) (by omega)
    have a2 := impl_NeedAll_w hu hw n 1 u 0 (by omega) (by omega) (by omega) (by omega)
    exact ⟨_, a1, a2⟩
theorem NeedAll_law (p0 : World) (h : World.wf p0 ∧ True) : laws_FnExactNeedAll 1099511627776 p0 = some true := by
  obtain ⟨w0, _⟩ := h
  have hu : 1099511627776 ≤ 1099511627776 := Nat.le_refl _
  unfold laws_FnExactNeedAll
  rw [laws_szWorld_eq hu (x := p0) (n := 1048576) (by omega) (by omega) w0]
  simp only [Option.bind_some]
  by_cases b0 : ((World.bulk p0 : Nat) : Int) ≤ 1048576
  · have c0 : ¬ (1048576 - ((World.bulk p0 : Nat) : Int) < 0) := by omega
    rw [leftI_pos b0]
    simp only [c0, decide_false, cond_false]
    obtain ⟨v, e1, e2⟩ := NeedAll_same hu w0 (show _ ≤ 1048576 by omega)
    simp only [laws_toWorld_eq hu (x := p0) (by omega), laws_eqWorld_eq hu (x := p0) (by omega), e1, e2, Option.bind_some, bne_self_eq_false, beq_self_eq_true, Bool.not_true, cond_false]
  · rw [leftI_neg b0]; rfl
end Go.Tm.Pu
