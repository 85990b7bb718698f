/- Plain laws of the functions. -/
import Derived.Test.YtdgkjbcglhekoaaGreatCLateInD
import Derived.Test.YtdgkjbcglhekoaaGreatPu2
set_option linter.unusedVariables false
set_option linter.unusedSimpArgs false
namespace Go.Tm.Pu
open Go.Tm
theorem laws_szByteS_eq {u : Nat} (hu : 1099511627776 ≤ u) {x : List Int} {n : Int} (h0 : 0 ≤ n) (h1 : n ≤ 1048576) (hw : (wSl (wInt .u8)) x) : laws_szByteS u x n = some (leftI n x.length) := left_len h0 h1 hw.1
theorem laws_toByteS_eq {u : Nat} (hu : 1099511627776 ≤ u) {x : List Int} (h : x.length ≤ 68719476736) : laws_toByteS u x = some x := by
  have hlen : x.length ≤ 68719476736 := by omega
  unfold laws_toByteS
  rw [chk_len, chk_dec (by rw [Int.toNat_natCast]; omega)]
  simp only [Option.bind_some, Int.toNat_natCast]
  rw [laws_toByteS_l2_w u x _ u (by omega) (by omega), wlist_copy0]
  · rfl
  · intro y i s k hx hi
    unfold laws_toByteS_l2_b
    rw [idx_nat, List.getElem?_eq_getElem hi]; simp
theorem laws_eqByteS_eq {u : Nat} (hu : 1099511627776 ≤ u) {x : List Int} (h : x.length ≤ 68719476736) : laws_eqByteS u x x = some true := by
  have hlen : x.length ≤ 68719476736 := by omega
  unfold laws_eqByteS
  simp only [bne_self_eq_false, cond_false]
  rw [laws_eqByteS_l2_w u x x () u (by omega) (by omega), wlist_all (xs := x) _ x 0 (by simp)]
  · rfl
  · intro y i k hx
    unfold laws_eqByteS_l2_b
    rw [idx_nat, hx]; simp
theorem laws_toRecord_eq (u : Nat) (x : Record) : laws_toRecord u x = some x := by
  unfold laws_toRecord
  rfl
theorem laws_eqRecord_eq (u : Nat) (x : Record) : laws_eqRecord u x x = some true := by
  unfold laws_eqRecord
  simp []
def Put.bulk (x : Put) : Nat := x.fB.length
theorem laws_szPut_eq {u : Nat} (hu : 1099511627776 ≤ u) {x : Put} {n : Int} (h0 : 0 ≤ n) (h1 : n ≤ 1048576) (hw : Put.wf x) : laws_szPut u x n = some (leftI n (Put.bulk x)) := by
  unfold laws_szPut Put.bulk
  rw [laws_szByteS_eq hu h0 h1 hw.2.2.1]
  simp only [Option.bind_some]
  exact left_last
theorem laws_toPut_eq {u : Nat} (hu : 1099511627776 ≤ u) {x : Put} (h : Put.bulk x ≤ 68719476736) : laws_toPut u x = some x := by
  unfold Put.bulk at h
  unfold laws_toPut
  rw [laws_toByteS_eq hu (by omega), laws_toRecord_eq u _]; rfl
theorem laws_eqPut_eq {u : Nat} (hu : 1099511627776 ≤ u) {x : Put} (h : Put.bulk x ≤ 68719476736) : laws_eqPut u x x = some true := by
  unfold Put.bulk at h
  unfold laws_eqPut
  simp [laws_eqByteS_eq hu (x := x.fB) (by omega), laws_eqRecord_eq]
theorem laws_toKid_eq (u : Nat) (x : Kid) : laws_toKid u x = some x := by
  unfold laws_toKid
  rfl
theorem laws_eqKid_eq (u : Nat) (x : Kid) : laws_eqKid u x x = some true := by
  unfold laws_eqKid
  simp []
theorem laws_toSum_eq (u : Nat) (x : Sum) : laws_toSum u x = some x := by
  unfold laws_toSum
  rfl
theorem laws_eqSum_eq (u : Nat) (x : Sum) : laws_eqSum u x x = some true := by
  unfold laws_eqSum
  simp []
theorem laws_szIntS_eq {u : Nat} (hu : 1099511627776 ≤ u) {x : List Int} {n : Int} (h0 : 0 ≤ n) (h1 : n ≤ 1048576) (hw : (wSl (wInt .i64)) x) : laws_szIntS u x n = some (leftI n x.length) := left_len h0 h1 hw.1
theorem laws_toIntS_eq {u : Nat} (hu : 1099511627776 ≤ u) {x : List Int} (h : x.length ≤ 68719476736) : laws_toIntS u x = some x := by
  have hlen : x.length ≤ 68719476736 := by omega
  unfold laws_toIntS
  rw [chk_len, chk_dec (by rw [Int.toNat_natCast]; omega)]
  simp only [Option.bind_some, Int.toNat_natCast]
  rw [laws_toIntS_l2_w u x _ u (by omega) (by omega), wlist_copy0]
  · rfl
  · intro y i s k hx hi
    unfold laws_toIntS_l2_b
    rw [idx_nat, List.getElem?_eq_getElem hi]; simp
theorem laws_eqIntS_eq {u : Nat} (hu : 1099511627776 ≤ u) {x : List Int} (h : x.length ≤ 68719476736) : laws_eqIntS u x x = some true := by
  have hlen : x.length ≤ 68719476736 := by omega
  unfold laws_eqIntS
  simp only [bne_self_eq_false, cond_false]
  rw [laws_eqIntS_l2_w u x x () u (by omega) (by omega), wlist_all (xs := x) _ x 0 (by simp)]
  · rfl
  · intro y i k hx
    unfold laws_eqIntS_l2_b
    rw [idx_nat, hx]; simp
def Tree.bulk (x : Tree) : Nat := x.fUp.length
theorem laws_szTree_eq {u : Nat} (hu : 1099511627776 ≤ u) {x : Tree} {n : Int} (h0 : 0 ≤ n) (h1 : n ≤ 1048576) (hw : Tree.wf x) : laws_szTree u x n = some (leftI n (Tree.bulk x)) := by
  unfold laws_szTree Tree.bulk
  rw [laws_szIntS_eq hu h0 h1 hw.1]
  simp only [Option.bind_some]
  exact left_last
theorem laws_toTree_eq {u : Nat} (hu : 1099511627776 ≤ u) {x : Tree} (h : Tree.bulk x ≤ 68719476736) : laws_toTree u x = some x := by
  unfold Tree.bulk at h
  unfold laws_toTree
  rw [laws_toIntS_eq hu (by omega)]; rfl
theorem laws_eqTree_eq {u : Nat} (hu : 1099511627776 ≤ u) {x : Tree} (h : Tree.bulk x ≤ 68719476736) : laws_eqTree u x x = some true := by
  unfold Tree.bulk at h
  unfold laws_eqTree
  simp [laws_eqIntS_eq hu (x := x.fUp) (by omega)]
theorem laws_toConf_eq (u : Nat) (x : Conf) : laws_toConf u x = some x := by
  unfold laws_toConf
  rfl
theorem laws_eqConf_eq (u : Nat) (x : Conf) : laws_eqConf u x x = some true := by
  unfold laws_eqConf
  simp []
theorem laws_szSumS_eq {u : Nat} (hu : 1099511627776 ≤ u) {x : List Sum} {n : Int} (h0 : 0 ≤ n) (h1 : n ≤ 1048576) (hw : (wSl Sum.wf) x) : laws_szSumS u x n = some (leftI n x.length) := left_len h0 h1 hw.1
theorem laws_toSumS_eq {u : Nat} (hu : 1099511627776 ≤ u) {x : List Sum} (h : x.length ≤ 68719476736) : laws_toSumS u x = some x := by
  have hlen : x.length ≤ 68719476736 := by omega
  unfold laws_toSumS
  rw [chk_len, chk_dec (by rw [Int.toNat_natCast]; omega)]
  simp only [Option.bind_some, Int.toNat_natCast]
  rw [laws_toSumS_l2_w u x _ u (by omega) (by omega), wlist_copy0]
  · rfl
  · intro y i s k hx hi
    unfold laws_toSumS_l2_b
    rw [laws_toSum_eq u _]
    rw [idx_nat, List.getElem?_eq_getElem hi]; simp
theorem laws_eqSumS_eq {u : Nat} (hu : 1099511627776 ≤ u) {x : List Sum} (h : x.length ≤ 68719476736) : laws_eqSumS u x x = some true := by
  have hlen : x.length ≤ 68719476736 := by omega
  unfold laws_eqSumS
  simp only [bne_self_eq_false, cond_false]
  rw [laws_eqSumS_l2_w u x x () u (by omega) (by omega), wlist_all (xs := x) _ x 0 (by simp)]
  · rfl
  · intro y i k hx
    unfold laws_eqSumS_l2_b
    rw [idx_nat, hx]
    simp only [Option.bind_some]
    rw [laws_eqSum_eq]; simp
def Manifest.bulk (x : Manifest) : Nat := x.fSums.length
theorem laws_szManifest_eq {u : Nat} (hu : 1099511627776 ≤ u) {x : Manifest} {n : Int} (h0 : 0 ≤ n) (h1 : n ≤ 1048576) (hw : Manifest.wf x) : laws_szManifest u x n = some (leftI n (Manifest.bulk x)) := by
  unfold laws_szManifest Manifest.bulk
  rw [laws_szSumS_eq hu h0 h1 hw.2.2.2.1]
  simp only [Option.bind_some]
  exact left_last
theorem laws_toManifest_eq {u : Nat} (hu : 1099511627776 ≤ u) {x : Manifest} (h : Manifest.bulk x ≤ 68719476736) : laws_toManifest u x = some x := by
  unfold Manifest.bulk at h
  unfold laws_toManifest
  rw [laws_toSumS_eq hu (by omega)]; rfl
theorem laws_eqManifest_eq {u : Nat} (hu : 1099511627776 ≤ u) {x : Manifest} (h : Manifest.bulk x ≤ 68719476736) : laws_eqManifest u x x = some true := by
  unfold Manifest.bulk at h
  unfold laws_eqManifest
  simp [laws_eqSumS_eq hu (x := x.fSums) (by omega)]
def Build.bulk (x : Build) : Nat := x.fBuf.length
theorem laws_szBuild_eq {u : Nat} (hu : 1099511627776 ≤ u) {x : Build} {n : Int} (h0 : 0 ≤ n) (h1 : n ≤ 1048576) (hw : Build.wf x) : laws_szBuild u x n = some (leftI n (Build.bulk x)) := by
  unfold laws_szBuild Build.bulk
  rw [laws_szByteS_eq hu h0 h1 hw.2.1]
  simp only [Option.bind_some]
  exact left_last
theorem laws_toBuild_eq {u : Nat} (hu : 1099511627776 ≤ u) {x : Build} (h : Build.bulk x ≤ 68719476736) : laws_toBuild u x = some x := by
  unfold Build.bulk at h
  unfold laws_toBuild
  rw [laws_toByteS_eq hu (by omega)]; rfl
theorem laws_eqBuild_eq {u : Nat} (hu : 1099511627776 ≤ u) {x : Build} (h : Build.bulk x ≤ 68719476736) : laws_eqBuild u x x = some true := by
  unfold Build.bulk at h
  unfold laws_eqBuild
  simp [laws_eqByteS_eq hu (x := x.fBuf) (by omega)]
theorem laws_szKidS_eq {u : Nat} (hu : 1099511627776 ≤ u) {x : List Kid} {n : Int} (h0 : 0 ≤ n) (h1 : n ≤ 1048576) (hw : (wSl Kid.wf) x) : laws_szKidS u x n = some (leftI n x.length) := left_len h0 h1 hw.1
theorem laws_toKidS_eq {u : Nat} (hu : 1099511627776 ≤ u) {x : List Kid} (h : x.length ≤ 68719476736) : laws_toKidS u x = some x := by
  have hlen : x.length ≤ 68719476736 := by omega
  unfold laws_toKidS
  rw [chk_len, chk_dec (by rw [Int.toNat_natCast]; omega)]
  simp only [Option.bind_some, Int.toNat_natCast]
  rw [laws_toKidS_l2_w u x _ u (by omega) (by omega), wlist_copy0]
  · rfl
  · intro y i s k hx hi
    unfold laws_toKidS_l2_b
    rw [laws_toKid_eq u _]
    rw [idx_nat, List.getElem?_eq_getElem hi]; simp
theorem laws_eqKidS_eq {u : Nat} (hu : 1099511627776 ≤ u) {x : List Kid} (h : x.length ≤ 68719476736) : laws_eqKidS u x x = some true := by
  have hlen : x.length ≤ 68719476736 := by omega
  unfold laws_eqKidS
  simp only [bne_self_eq_false, cond_false]
  rw [laws_eqKidS_l2_w u x x () u (by omega) (by omega), wlist_all (xs := x) _ x 0 (by simp)]
  · rfl
  · intro y i k hx
    unfold laws_eqKidS_l2_b
    rw [idx_nat, hx]
    simp only [Option.bind_some]
    rw [laws_eqKid_eq]; simp
def Node.bulk (x : Node) : Nat := Manifest.bulk x.fMan + (Build.bulk x.fBld + (x.fKids.length))
theorem laws_szNode_eq {u : Nat} (hu : 1099511627776 ≤ u) {x : Node} {n : Int} (h0 : 0 ≤ n) (h1 : n ≤ 1048576) (hw : Node.wf x) : laws_szNode u x n = some (leftI n (Node.bulk x)) := by
  unfold laws_szNode Node.bulk
  rw [laws_szManifest_eq hu h0 h1 hw.2.2.2.1]
  simp only [Option.bind_some]
  exact left_step (c := Build.bulk x.fBld + (x.fKids.length)) (f := fun r => (laws_szBuild u x.fBld r).bind fun r1 => bif decide (r1 < 0) then some (-1) else ((laws_szKidS u x.fKids r1).bind fun r2 => bif decide (r2 < 0) then some (-1) else (some r2))) (fun v0 h2v0 h3v0 => by rw [laws_szBuild_eq hu h2v0 (by omega) hw.2.2.2.2.1]; simp only [Option.bind_some]; exact left_step (c := x.fKids.length) (f := fun r => (laws_szKidS u x.fKids r).bind fun r2 => bif decide (r2 < 0) then some (-1) else (some r2)) (fun v1 h2v1 h3v1 => by rw [laws_szKidS_eq hu h2v1 (by omega) hw.2.2.2.2.2.2.1]; simp only [Option.bind_some]; exact left_last) h2v0) h0
theorem laws_toNode_eq {u : Nat} (hu : 1099511627776 ≤ u) {x : Node} (h : Node.bulk x ≤ 68719476736) : laws_toNode u x = some x := by
  unfold Node.bulk at h
  unfold laws_toNode
  rw [laws_toManifest_eq hu (by omega), laws_toBuild_eq hu (by omega), laws_toKidS_eq hu (by omega)]; rfl
theorem laws_eqNode_eq {u : Nat} (hu : 1099511627776 ≤ u) {x : Node} (h : Node.bulk x ≤ 68719476736) : laws_eqNode u x x = some true := by
  unfold Node.bulk at h
  unfold laws_eqNode
  simp [laws_eqManifest_eq hu (x := x.fMan) (by omega), laws_eqBuild_eq hu (x := x.fBld) (by omega), laws_eqKidS_eq hu (x := x.fKids) (by omega)]
theorem laws_szPutS_eq {u : Nat} (hu : 1099511627776 ≤ u) {x : List Put} {n : Int} (h0 : 0 ≤ n) (h1 : n ≤ 1048576) (hw : (wSl Put.wf) x) : laws_szPutS u x n = some (leftI n (bulkL Put.bulk x)) :=
  left_list (c := sumL Put.bulk x) (f := fun r => laws_szPutS_l2 u u x r 0) (fun hm r h2 h3 => by
    rw [laws_szPutS_l2_w u x r u (by omega) (by omega)]
    exact wlist_sz (f := Put.bulk) (fun s => rfl) (fun y i s k hy hs0 hs1 => by unfold laws_szPutS_l2_b; rw [laws_szPut_eq hu hs0 hs1 (hw.2 y hy)]; rfl) x 0 r (fun _ h => h) h2 (by omega)) h0 h1 hw.1
theorem laws_toPutS_eq {u : Nat} (hu : 1099511627776 ≤ u) {x : List Put} (h : Pu.bulkL Put.bulk x ≤ 68719476736) : laws_toPutS u x = some x := by
  have hlen : x.length ≤ 68719476736 := by have := bulkL_len (f := Put.bulk) x; omega
  unfold laws_toPutS
  rw [chk_len, chk_dec (by rw [Int.toNat_natCast]; omega)]
  simp only [Option.bind_some, Int.toNat_natCast]
  rw [laws_toPutS_l2_w u x _ u (by omega) (by omega), wlist_copy0]
  · rfl
  · intro y i s k hx hi
    unfold laws_toPutS_l2_b
    rw [laws_toPut_eq hu (Nat.le_trans (bulkL_mem (f := Put.bulk) hx) h)]
    rw [idx_nat, List.getElem?_eq_getElem hi]; simp
theorem laws_eqPutS_eq {u : Nat} (hu : 1099511627776 ≤ u) {x : List Put} (h : Pu.bulkL Put.bulk x ≤ 68719476736) : laws_eqPutS u x x = some true := by
  have hlen : x.length ≤ 68719476736 := by have := bulkL_len (f := Put.bulk) x; omega
  unfold laws_eqPutS
  simp only [bne_self_eq_false, cond_false]
  rw [laws_eqPutS_l2_w u x x () u (by omega) (by omega), wlist_all (xs := x) _ x 0 (by simp)]
  · rfl
  · intro y i k hx
    unfold laws_eqPutS_l2_b
    rw [idx_nat, hx]
    simp only [Option.bind_some]
    rw [laws_eqPut_eq hu (Nat.le_trans (bulkL_mem (f := Put.bulk) (List.mem_of_getElem? hx)) h)]; simp
def Disk.bulk (x : Disk) : Nat := x.fA.length + (x.fB.length + (Pu.bulkL Put.bulk x.fP))
theorem laws_szDisk_eq {u : Nat} (hu : 1099511627776 ≤ u) {x : Disk} {n : Int} (h0 : 0 ≤ n) (h1 : n ≤ 1048576) (hw : Disk.wf x) : laws_szDisk u x n = some (leftI n (Disk.bulk x)) := by
  unfold laws_szDisk Disk.bulk
  rw [laws_szByteS_eq hu h0 h1 hw.1]
  simp only [Option.bind_some]
  exact left_step (c := x.fB.length + (Pu.bulkL Put.bulk x.fP)) (f := fun r => (laws_szByteS u x.fB r).bind fun r1 => bif decide (r1 < 0) then some (-1) else ((laws_szPutS u x.fP r1).bind fun r2 => bif decide (r2 < 0) then some (-1) else (some r2))) (fun v0 h2v0 h3v0 => by rw [laws_szByteS_eq hu h2v0 (by omega) hw.2.1]; simp only [Option.bind_some]; exact left_step (c := Pu.bulkL Put.bulk x.fP) (f := fun r => (laws_szPutS u x.fP r).bind fun r2 => bif decide (r2 < 0) then some (-1) else (some r2)) (fun v1 h2v1 h3v1 => by rw [laws_szPutS_eq hu h2v1 (by omega) hw.2.2.2.1]; simp only [Option.bind_some]; exact left_last) h2v0) h0
theorem laws_toDisk_eq {u : Nat} (hu : 1099511627776 ≤ u) {x : Disk} (h : Disk.bulk x ≤ 68719476736) : laws_toDisk u x = some x := by
  unfold Disk.bulk at h
  unfold laws_toDisk
  rw [laws_toByteS_eq hu (by omega), laws_toByteS_eq hu (by omega), laws_toRecord_eq u _, laws_toPutS_eq hu (by omega)]; rfl
theorem laws_eqDisk_eq {u : Nat} (hu : 1099511627776 ≤ u) {x : Disk} (h : Disk.bulk x ≤ 68719476736) : laws_eqDisk u x x = some true := by
  unfold Disk.bulk at h
  unfold laws_eqDisk
  simp [laws_eqByteS_eq hu (x := x.fA) (by omega), laws_eqByteS_eq hu (x := x.fB) (by omega), laws_eqRecord_eq, laws_eqPutS_eq hu (x := x.fP) (by omega)]
theorem laws_toSent_eq (u : Nat) (x : Sent) : laws_toSent u x = some x := by
  unfold laws_toSent
  rfl
theorem laws_eqSent_eq (u : Nat) (x : Sent) : laws_eqSent u x x = some true := by
  unfold laws_eqSent
  simp []
def Image.bulk (x : Image) : Nat := x.fB.length
theorem laws_szImage_eq {u : Nat} (hu : 1099511627776 ≤ u) {x : Image} {n : Int} (h0 : 0 ≤ n) (h1 : n ≤ 1048576) (hw : Image.wf x) : laws_szImage u x n = some (leftI n (Image.bulk x)) := by
  unfold laws_szImage Image.bulk
  rw [laws_szByteS_eq hu h0 h1 hw.1]
  simp only [Option.bind_some]
  exact left_last
theorem laws_toImage_eq {u : Nat} (hu : 1099511627776 ≤ u) {x : Image} (h : Image.bulk x ≤ 68719476736) : laws_toImage u x = some x := by
  unfold Image.bulk at h
  unfold laws_toImage
  rw [laws_toByteS_eq hu (by omega)]; rfl
theorem laws_eqImage_eq {u : Nat} (hu : 1099511627776 ≤ u) {x : Image} (h : Image.bulk x ≤ 68719476736) : laws_eqImage u x x = some true := by
  unfold Image.bulk at h
  unfold laws_eqImage
  simp [laws_eqByteS_eq hu (x := x.fB) (by omega)]
theorem laws_szImageS_eq {u : Nat} (hu : 1099511627776 ≤ u) {x : List Image} {n : Int} (h0 : 0 ≤ n) (h1 : n ≤ 1048576) (hw : (wSl Image.wf) x) : laws_szImageS u x n = some (leftI n (bulkL Image.bulk x)) :=
  left_list (c := sumL Image.bulk x) (f := fun r => laws_szImageS_l2 u u x r 0) (fun hm r h2 h3 => by
    rw [laws_szImageS_l2_w u x r u (by omega) (by omega)]
    exact wlist_sz (f := Image.bulk) (fun s => rfl) (fun y i s k hy hs0 hs1 => by unfold laws_szImageS_l2_b; rw [laws_szImage_eq hu hs0 hs1 (hw.2 y hy)]; rfl) x 0 r (fun _ h => h) h2 (by omega)) h0 h1 hw.1
theorem laws_toImageS_eq {u : Nat} (hu : 1099511627776 ≤ u) {x : List Image} (h : Pu.bulkL Image.bulk x ≤ 68719476736) : laws_toImageS u x = some x := by
  have hlen : x.length ≤ 68719476736 := by have := bulkL_len (f := Image.bulk) x; omega
  unfold laws_toImageS
  rw [chk_len, chk_dec (by rw [Int.toNat_natCast]; omega)]
  simp only [Option.bind_some, Int.toNat_natCast]
  rw [laws_toImageS_l2_w u x _ u (by omega) (by omega), wlist_copy0]
  · rfl
  · intro y i s k hx hi
    unfold laws_toImageS_l2_b
    rw [laws_toImage_eq hu (Nat.le_trans (bulkL_mem (f := Image.bulk) hx) h)]
    rw [idx_nat, List.getElem?_eq_getElem hi]; simp
theorem laws_eqImageS_eq {u : Nat} (hu : 1099511627776 ≤ u) {x : List Image} (h : Pu.bulkL Image.bulk x ≤ 68719476736) : laws_eqImageS u x x = some true := by
  have hlen : x.length ≤ 68719476736 := by have := bulkL_len (f := Image.bulk) x; omega
  unfold laws_eqImageS
  simp only [bne_self_eq_false, cond_false]
  rw [laws_eqImageS_l2_w u x x () u (by omega) (by omega), wlist_all (xs := x) _ x 0 (by simp)]
  · rfl
  · intro y i k hx
    unfold laws_eqImageS_l2_b
    rw [idx_nat, hx]
    simp only [Option.bind_some]
    rw [laws_eqImage_eq hu (Nat.le_trans (bulkL_mem (f := Image.bulk) (List.mem_of_getElem? hx)) h)]; simp
theorem laws_szNodeS_eq {u : Nat} (hu : 1099511627776 ≤ u) {x : List Node} {n : Int} (h0 : 0 ≤ n) (h1 : n ≤ 1048576) (hw : (wSl Node.wf) x) : laws_szNodeS u x n = some (leftI n (bulkL Node.bulk x)) :=
  left_list (c := sumL Node.bulk x) (f := fun r => laws_szNodeS_l2 u u x r 0) (fun hm r h2 h3 => by
    rw [laws_szNodeS_l2_w u x r u (by omega) (by omega)]
    exact wlist_sz (f := Node.bulk) (fun s => rfl) (fun y i s k hy hs0 hs1 => by unfold laws_szNodeS_l2_b; rw [laws_szNode_eq hu hs0 hs1 (hw.2 y hy)]; rfl) x 0 r (fun _ h => h) h2 (by omega)) h0 h1 hw.1
theorem laws_toNodeS_eq {u : Nat} (hu : 1099511627776 ≤ u) {x : List Node} (h : Pu.bulkL Node.bulk x ≤ 68719476736) : laws_toNodeS u x = some x := by
  have hlen : x.length ≤ 68719476736 := by have := bulkL_len (f := Node.bulk) x; omega
  unfold laws_toNodeS
  rw [chk_len, chk_dec (by rw [Int.toNat_natCast]; omega)]
  simp only [Option.bind_some, Int.toNat_natCast]
  rw [laws_toNodeS_l2_w u x _ u (by omega) (by omega), wlist_copy0]
  · rfl
  · intro y i s k hx hi
    unfold laws_toNodeS_l2_b
    rw [laws_toNode_eq hu (Nat.le_trans (bulkL_mem (f := Node.bulk) hx) h)]
    rw [idx_nat, List.getElem?_eq_getElem hi]; simp
theorem laws_eqNodeS_eq {u : Nat} (hu : 1099511627776 ≤ u) {x : List Node} (h : Pu.bulkL Node.bulk x ≤ 68719476736) : laws_eqNodeS u x x = some true := by
  have hlen : x.length ≤ 68719476736 := by have := bulkL_len (f := Node.bulk) x; omega
  unfold laws_eqNodeS
  simp only [bne_self_eq_false, cond_false]
  rw [laws_eqNodeS_l2_w u x x () u (by omega) (by omega), wlist_all (xs := x) _ x 0 (by simp)]
  · rfl
  · intro y i k hx
    unfold laws_eqNodeS_l2_b
    rw [idx_nat, hx]
    simp only [Option.bind_some]
    rw [laws_eqNode_eq hu (Nat.le_trans (bulkL_mem (f := Node.bulk) (List.mem_of_getElem? hx)) h)]; simp
theorem laws_szDiskS_eq {u : Nat} (hu : 1099511627776 ≤ u) {x : List Disk} {n : Int} (h0 : 0 ≤ n) (h1 : n ≤ 1048576) (hw : (wSl Disk.wf) x) : laws_szDiskS u x n = some (leftI n (bulkL Disk.bulk x)) :=
  left_list (c := sumL Disk.bulk x) (f := fun r => laws_szDiskS_l2 u u x r 0) (fun hm r h2 h3 => by
    rw [laws_szDiskS_l2_w u x r u (by omega) (by omega)]
    exact wlist_sz (f := Disk.bulk) (fun s => rfl) (fun y i s k hy hs0 hs1 => by unfold laws_szDiskS_l2_b; rw [laws_szDisk_eq hu hs0 hs1 (hw.2 y hy)]; rfl) x 0 r (fun _ h => h) h2 (by omega)) h0 h1 hw.1
theorem laws_toDiskS_eq {u : Nat} (hu : 1099511627776 ≤ u) {x : List Disk} (h : Pu.bulkL Disk.bulk x ≤ 68719476736) : laws_toDiskS u x = some x := by
  have hlen : x.length ≤ 68719476736 := by have := bulkL_len (f := Disk.bulk) x; omega
  unfold laws_toDiskS
  rw [chk_len, chk_dec (by rw [Int.toNat_natCast]; omega)]
  simp only [Option.bind_some, Int.toNat_natCast]
  rw [laws_toDiskS_l2_w u x _ u (by omega) (by omega), wlist_copy0]
  · rfl
  · intro y i s k hx hi
    unfold laws_toDiskS_l2_b
    rw [laws_toDisk_eq hu (Nat.le_trans (bulkL_mem (f := Disk.bulk) hx) h)]
    rw [idx_nat, List.getElem?_eq_getElem hi]; simp
theorem laws_eqDiskS_eq {u : Nat} (hu : 1099511627776 ≤ u) {x : List Disk} (h : Pu.bulkL Disk.bulk x ≤ 68719476736) : laws_eqDiskS u x x = some true := by
  have hlen : x.length ≤ 68719476736 := by have := bulkL_len (f := Disk.bulk) x; omega
  unfold laws_eqDiskS
  simp only [bne_self_eq_false, cond_false]
  rw [laws_eqDiskS_l2_w u x x () u (by omega) (by omega), wlist_all (xs := x) _ x 0 (by simp)]
  · rfl
  · intro y i k hx
    unfold laws_eqDiskS_l2_b
    rw [idx_nat, hx]
    simp only [Option.bind_some]
    rw [laws_eqDisk_eq hu (Nat.le_trans (bulkL_mem (f := Disk.bulk) (List.mem_of_getElem? hx)) h)]; simp
def Packet.bulk (x : Packet) : Nat := x.fB.length
theorem laws_szPacket_eq {u : Nat} (hu : 1099511627776 ≤ u) {x : Packet} {n : Int} (h0 : 0 ≤ n) (h1 : n ≤ 1048576) (hw : Packet.wf x) : laws_szPacket u x n = some (leftI n (Packet.bulk x)) := by
  unfold laws_szPacket Packet.bulk
  rw [laws_szByteS_eq hu h0 h1 hw.2.2.1]
  simp only [Option.bind_some]
  exact left_last
theorem laws_toPacket_eq {u : Nat} (hu : 1099511627776 ≤ u) {x : Packet} (h : Packet.bulk x ≤ 68719476736) : laws_toPacket u x = some x := by
  unfold Packet.bulk at h
  unfold laws_toPacket
  rw [laws_toByteS_eq hu (by omega)]; rfl
theorem laws_eqPacket_eq {u : Nat} (hu : 1099511627776 ≤ u) {x : Packet} (h : Packet.bulk x ≤ 68719476736) : laws_eqPacket u x x = some true := by
  unfold Packet.bulk at h
  unfold laws_eqPacket
  simp [laws_eqByteS_eq hu (x := x.fB) (by omega)]
theorem laws_szPacketS_eq {u : Nat} (hu : 1099511627776 ≤ u) {x : List Packet} {n : Int} (h0 : 0 ≤ n) (h1 : n ≤ 1048576) (hw : (wSl Packet.wf) x) : laws_szPacketS u x n = some (leftI n (bulkL Packet.bulk x)) :=
  left_list (c := sumL Packet.bulk x) (f := fun r => laws_szPacketS_l2 u u x r 0) (fun hm r h2 h3 => by
    rw [laws_szPacketS_l2_w u x r u (by omega) (by omega)]
    exact wlist_sz (f := Packet.bulk) (fun s => rfl) (fun y i s k hy hs0 hs1 => by unfold laws_szPacketS_l2_b; rw [laws_szPacket_eq hu hs0 hs1 (hw.2 y hy)]; rfl) x 0 r (fun _ h => h) h2 (by omega)) h0 h1 hw.1
theorem laws_toPacketS_eq {u : Nat} (hu : 1099511627776 ≤ u) {x : List Packet} (h : Pu.bulkL Packet.bulk x ≤ 68719476736) : laws_toPacketS u x = some x := by
  have hlen : x.length ≤ 68719476736 := by have := bulkL_len (f := Packet.bulk) x; omega
  unfold laws_toPacketS
  rw [chk_len, chk_dec (by rw [Int.toNat_natCast]; omega)]
  simp only [Option.bind_some, Int.toNat_natCast]
  rw [laws_toPacketS_l2_w u x _ u (by omega) (by omega), wlist_copy0]
  · rfl
  · intro y i s k hx hi
    unfold laws_toPacketS_l2_b
    rw [laws_toPacket_eq hu (Nat.le_trans (bulkL_mem (f := Packet.bulk) hx) h)]
    rw [idx_nat, List.getElem?_eq_getElem hi]; simp
theorem laws_eqPacketS_eq {u : Nat} (hu : 1099511627776 ≤ u) {x : List Packet} (h : Pu.bulkL Packet.bulk x ≤ 68719476736) : laws_eqPacketS u x x = some true := by
  have hlen : x.length ≤ 68719476736 := by have := bulkL_len (f := Packet.bulk) x; omega
  unfold laws_eqPacketS
  simp only [bne_self_eq_false, cond_false]
  rw [laws_eqPacketS_l2_w u x x () u (by omega) (by omega), wlist_all (xs := x) _ x 0 (by simp)]
  · rfl
  · intro y i k hx
    unfold laws_eqPacketS_l2_b
    rw [idx_nat, hx]
    simp only [Option.bind_some]
    rw [laws_eqPacket_eq hu (Nat.le_trans (bulkL_mem (f := Packet.bulk) (List.mem_of_getElem? hx)) h)]; simp
theorem laws_szSentS_eq {u : Nat} (hu : 1099511627776 ≤ u) {x : List Sent} {n : Int} (h0 : 0 ≤ n) (h1 : n ≤ 1048576) (hw : (wSl Sent.wf) x) : laws_szSentS u x n = some (leftI n x.length) := left_len h0 h1 hw.1
theorem laws_toSentS_eq {u : Nat} (hu : 1099511627776 ≤ u) {x : List Sent} (h : x.length ≤ 68719476736) : laws_toSentS u x = some x := by
  have hlen : x.length ≤ 68719476736 := by omega
  unfold laws_toSentS
  rw [chk_len, chk_dec (by rw [Int.toNat_natCast]; omega)]
  simp only [Option.bind_some, Int.toNat_natCast]
  rw [laws_toSentS_l2_w u x _ u (by omega) (by omega), wlist_copy0]
  · rfl
  · intro y i s k hx hi
    unfold laws_toSentS_l2_b
    rw [laws_toSent_eq u _]
    rw [idx_nat, List.getElem?_eq_getElem hi]; simp
theorem laws_eqSentS_eq {u : Nat} (hu : 1099511627776 ≤ u) {x : List Sent} (h : x.length ≤ 68719476736) : laws_eqSentS u x x = some true := by
  have hlen : x.length ≤ 68719476736 := by omega
  unfold laws_eqSentS
  simp only [bne_self_eq_false, cond_false]
  rw [laws_eqSentS_l2_w u x x () u (by omega) (by omega), wlist_all (xs := x) _ x 0 (by simp)]
  · rfl
  · intro y i k hx
    unfold laws_eqSentS_l2_b
    rw [idx_nat, hx]
    simp only [Option.bind_some]
    rw [laws_eqSent_eq]; simp
def World.bulk (x : World) : Nat := Tree.bulk x.fT + (x.fNew.length + (Pu.bulkL Image.bulk x.fOld + (Pu.bulkL Node.bulk x.fN + (Pu.bulkL Disk.bulk x.fD + (Pu.bulkL Packet.bulk x.fNet + (x.fLog.length))))))
theorem laws_szWorld_eq {u : Nat} (hu : 1099511627776 ≤ u) {x : World} {n : Int} (h0 : 0 ≤ n) (h1 : n ≤ 1048576) (hw : World.wf x) : laws_szWorld u x n = some (leftI n (World.bulk x)) := by
  unfold laws_szWorld World.bulk
  rw [laws_szTree_eq hu h0 h1 hw.2.1]
  simp only [Option.bind_some]
  exact left_step (c := x.fNew.length + (Pu.bulkL Image.bulk x.fOld + (Pu.bulkL Node.bulk x.fN + (Pu.bulkL Disk.bulk x.fD + (Pu.bulkL Packet.bulk x.fNet + (x.fLog.length)))))) (f := fun r => (laws_szByteS u x.fNew r).bind fun r1 => bif decide (r1 < 0) then some (-1) else ((laws_szImageS u x.fOld r1).bind fun r2 => bif decide (r2 < 0) then some (-1) else ((laws_szNodeS u x.fN r2).bind fun r3 => bif decide (r3 < 0) then some (-1) else ((laws_szDiskS u x.fD r3).bind fun r4 => bif decide (r4 < 0) then some (-1) else ((laws_szPacketS u x.fNet r4).bind fun r5 => bif decide (r5 < 0) then some (-1) else ((laws_szSentS u x.fLog r5).bind fun r6 => bif decide (r6 < 0) then some (-1) else (some r6))))))) (fun v0 h2v0 h3v0 => by rw [laws_szByteS_eq hu h2v0 (by omega) hw.2.2.1]; simp only [Option.bind_some]; exact left_step (c := Pu.bulkL Image.bulk x.fOld + (Pu.bulkL Node.bulk x.fN + (Pu.bulkL Disk.bulk x.fD + (Pu.bulkL Packet.bulk x.fNet + (x.fLog.length))))) (f := fun r => (laws_szImageS u x.fOld r).bind fun r2 => bif decide (r2 < 0) then some (-1) else ((laws_szNodeS u x.fN r2).bind fun r3 => bif decide (r3 < 0) then some (-1) else ((laws_szDiskS u x.fD r3).bind fun r4 => bif decide (r4 < 0) then some (-1) else ((laws_szPacketS u x.fNet r4).bind fun r5 => bif decide (r5 < 0) then some (-1) else ((laws_szSentS u x.fLog r5).bind fun r6 => bif decide (r6 < 0) then some (-1) else (some r6)))))) (fun v1 h2v1 h3v1 => by rw [laws_szImageS_eq hu h2v1 (by omega) hw.2.2.2.1]; simp only [Option.bind_some]; exact left_step (c := Pu.bulkL Node.bulk x.fN + (Pu.bulkL Disk.bulk x.fD + (Pu.bulkL Packet.bulk x.fNet + (x.fLog.length)))) (f := fun r => (laws_szNodeS u x.fN r).bind fun r3 => bif decide (r3 < 0) then some (-1) else ((laws_szDiskS u x.fD r3).bind fun r4 => bif decide (r4 < 0) then some (-1) else ((laws_szPacketS u x.fNet r4).bind fun r5 => bif decide (r5 < 0) then some (-1) else ((laws_szSentS u x.fLog r5).bind fun r6 => bif decide (r6 < 0) then some (-1) else (some r6))))) (fun v2 h2v2 h3v2 => by rw [laws_szNodeS_eq hu h2v2 (by omega) hw.2.2.2.2.1]; simp only [Option.bind_some]; exact left_step (c := Pu.bulkL Disk.bulk x.fD + (Pu.bulkL Packet.bulk x.fNet + (x.fLog.length))) (f := fun r => (laws_szDiskS u x.fD r).bind fun r4 => bif decide (r4 < 0) then some (-1) else ((laws_szPacketS u x.fNet r4).bind fun r5 => bif decide (r5 < 0) then some (-1) else ((laws_szSentS u x.fLog r5).bind fun r6 => bif decide (r6 < 0) then some (-1) else (some r6)))) (fun v3 h2v3 h3v3 => by rw [laws_szDiskS_eq hu h2v3 (by omega) hw.2.2.2.2.2.1]; simp only [Option.bind_some]; exact left_step (c := Pu.bulkL Packet.bulk x.fNet + (x.fLog.length)) (f := fun r => (laws_szPacketS u x.fNet r).bind fun r5 => bif decide (r5 < 0) then some (-1) else ((laws_szSentS u x.fLog r5).bind fun r6 => bif decide (r6 < 0) then some (-1) else (some r6))) (fun v4 h2v4 h3v4 => by rw [laws_szPacketS_eq hu h2v4 (by omega) hw.2.2.2.2.2.2.1]; simp only [Option.bind_some]; exact left_step (c := x.fLog.length) (f := fun r => (laws_szSentS u x.fLog r).bind fun r6 => bif decide (r6 < 0) then some (-1) else (some r6)) (fun v5 h2v5 h3v5 => by rw [laws_szSentS_eq hu h2v5 (by omega) hw.2.2.2.2.2.2.2.1]; simp only [Option.bind_some]; exact left_last) h2v4) h2v3) h2v2) h2v1) h2v0) h0
theorem laws_toWorld_eq {u : Nat} (hu : 1099511627776 ≤ u) {x : World} (h : World.bulk x ≤ 68719476736) : laws_toWorld u x = some x := by
  unfold World.bulk at h
  unfold laws_toWorld
  rw [laws_toConf_eq u _, laws_toTree_eq hu (by omega), laws_toByteS_eq hu (by omega), laws_toImageS_eq hu (by omega), laws_toNodeS_eq hu (by omega), laws_toDiskS_eq hu (by omega), laws_toPacketS_eq hu (by omega), laws_toSentS_eq hu (by omega)]; rfl
theorem laws_eqWorld_eq {u : Nat} (hu : 1099511627776 ≤ u) {x : World} (h : World.bulk x ≤ 68719476736) : laws_eqWorld u x x = some true := by
  unfold World.bulk at h
  unfold laws_eqWorld
  simp [laws_eqConf_eq, laws_eqTree_eq hu (x := x.fT) (by omega), laws_eqByteS_eq hu (x := x.fNew) (by omega), laws_eqImageS_eq hu (x := x.fOld) (by omega), laws_eqNodeS_eq hu (x := x.fN) (by omega), laws_eqDiskS_eq hu (x := x.fD) (by omega), laws_eqPacketS_eq hu (x := x.fNet) (by omega), laws_eqSentS_eq hu (x := x.fLog) (by omega)]
theorem wlist_mk {α : Type} {fin : Int → Option Int} {body : α → Nat → Int → (Int → Option Int) → Option Int} {xs : List α} (f : α → Nat) (hfin : ∀ s, fin s = some s)
    (hb : ∀ x i s k, xs[i]? = some x → 0 ≤ s → s + (f x : Int) ≤ 1099511627776 → ∃ s', body x i s k = k s' ∧ s ≤ s' ∧ s' ≤ s + (f x : Int)) :
    ∀ (l : List α) (i : Nat) (s : Int), l = xs.drop i → 0 ≤ s → s + (sumL f l : Int) ≤ 1099511627776 → ∃ v, wlist fin body l i s = some v ∧ s ≤ v ∧ v ≤ s + (sumL f l : Int) := by
  intro l
  induction l with
  | nil => intro i s _ h0 h1; exact ⟨s, by rw [wlist, hfin], by omega, by simp [sumL]⟩
  | cons x l ih =>
    intro i s hl h0 h1
    simp only [sumL, Int.natCast_add] at h1 ⊢
    have hx : xs[i]? = some x := by rw [← List.head?_drop, ← hl]; rfl
    have hd : l = xs.drop (i + 1) := by rw [← List.tail_drop, ← hl]; rfl
    obtain ⟨s', e, h2, h3⟩ := hb x i s (wlist fin body l (i + 1)) hx h0 (by omega)
    obtain ⟨v, e2, h4, h5⟩ := ih (i + 1) s' hd (by omega) (by omega)
    exact ⟨v, by rw [wlist, e, e2], by omega, by omega⟩
theorem sumL_10 {α : Type} (f : α → Nat) (xs : List α) : sumL (fun x => 10 * (1 + f x)) xs = 10 * bulkL f xs := by
  unfold bulkL
  induction xs with
  | nil => rfl
  | cons x xs ih => simp only [sumL, List.length_cons, ih]; omega
theorem sumL_c {α : Type} (c : Nat) (xs : List α) : sumL (fun _ => c) xs = c * xs.length := by
  induction xs with
  | nil => rfl
  | cons x xs ih => simp only [sumL, List.length_cons, ih, Nat.mul_succ]; omega
theorem bA1 {s : Int} (h0 : 0 ≤ s) (h1 : s ≤ 1125899906842624) : bAdd .i64 s 1 = s + 1 := bAdd_i64 (by omega) (by omega)
theorem laws_markIntS__m_eq {u : Nat} (hu : 1099511627776 ≤ u) {xs : List Int} {k : Int} (h0 : 0 ≤ k) (hk : k + ((10 * xs.length : Nat) : Int) ≤ 1099511627776) : ∃ v, laws_markIntS__m u xs k = some v ∧ k ≤ v ∧ v ≤ k + ((10 * xs.length : Nat) : Int) := by
  unfold laws_markIntS__m
  rw [laws_markIntS__m_l2_w u xs k u (by omega) (by omega), ← sumL_c 10 xs]
  refine wlist_mk (fun _ => 10) (fun s => rfl) (fun x i s q hx h0 h1 => ?_) xs 0 k rfl h0 (by rw [sumL_c]; exact hk)
  unfold laws_markIntS__m_l2_b
  simp only [idx_nat, hx, Option.bind_some]
  refine ⟨_, rfl, ?_, ?_⟩ <;> simp (disch := omega) only [bA1] <;> omega
theorem laws_markByteS__m_eq {u : Nat} (hu : 1099511627776 ≤ u) {xs : List Int} {k : Int} (h0 : 0 ≤ k) (hk : k + ((10 * xs.length : Nat) : Int) ≤ 1099511627776) : ∃ v, laws_markByteS__m u xs k = some v ∧ k ≤ v ∧ v ≤ k + ((10 * xs.length : Nat) : Int) := by
  unfold laws_markByteS__m
  rw [laws_markByteS__m_l2_w u xs k u (by omega) (by omega), ← sumL_c 10 xs]
  refine wlist_mk (fun _ => 10) (fun s => rfl) (fun x i s q hx h0 h1 => ?_) xs 0 k rfl h0 (by rw [sumL_c]; exact hk)
  unfold laws_markByteS__m_l2_b
  simp only [idx_nat, hx, Option.bind_some]
  refine ⟨_, rfl, ?_, ?_⟩ <;> simp (disch := omega) only [bA1] <;> omega
theorem laws_markSumS__m_eq {u : Nat} (hu : 1099511627776 ≤ u) {xs : List Sum} {k : Int} (h0 : 0 ≤ k) (hk : k + ((10 * xs.length : Nat) : Int) ≤ 1099511627776) : ∃ v, laws_markSumS__m u xs k = some v ∧ k ≤ v ∧ v ≤ k + ((10 * xs.length : Nat) : Int) := by
  unfold laws_markSumS__m
  rw [laws_markSumS__m_l2_w u xs k u (by omega) (by omega), ← sumL_c 10 xs]
  refine wlist_mk (fun _ => 10) (fun s => rfl) (fun x i s q hx h0 h1 => ?_) xs 0 k rfl h0 (by rw [sumL_c]; exact hk)
  unfold laws_markSumS__m_l2_b
  simp only [idx_nat, hx, Option.bind_some]
  refine ⟨_, rfl, ?_, ?_⟩ <;> simp (disch := omega) only [bA1] <;> omega
theorem laws_markKidS__m_eq {u : Nat} (hu : 1099511627776 ≤ u) {xs : List Kid} {k : Int} (h0 : 0 ≤ k) (hk : k + ((10 * xs.length : Nat) : Int) ≤ 1099511627776) : ∃ v, laws_markKidS__m u xs k = some v ∧ k ≤ v ∧ v ≤ k + ((10 * xs.length : Nat) : Int) := by
  unfold laws_markKidS__m
  rw [laws_markKidS__m_l2_w u xs k u (by omega) (by omega), ← sumL_c 10 xs]
  refine wlist_mk (fun _ => 10) (fun s => rfl) (fun x i s q hx h0 h1 => ?_) xs 0 k rfl h0 (by rw [sumL_c]; exact hk)
  unfold laws_markKidS__m_l2_b
  simp only [idx_nat, hx, Option.bind_some]
  refine ⟨_, rfl, ?_, ?_⟩ <;> simp (disch := omega) only [bA1] <;> omega
theorem laws_markSentS__m_eq {u : Nat} (hu : 1099511627776 ≤ u) {xs : List Sent} {k : Int} (h0 : 0 ≤ k) (hk : k + ((10 * xs.length : Nat) : Int) ≤ 1099511627776) : ∃ v, laws_markSentS__m u xs k = some v ∧ k ≤ v ∧ v ≤ k + ((10 * xs.length : Nat) : Int) := by
  unfold laws_markSentS__m
  rw [laws_markSentS__m_l2_w u xs k u (by omega) (by omega), ← sumL_c 10 xs]
  refine wlist_mk (fun _ => 10) (fun s => rfl) (fun x i s q hx h0 h1 => ?_) xs 0 k rfl h0 (by rw [sumL_c]; exact hk)
  unfold laws_markSentS__m_l2_b
  simp only [idx_nat, hx, Option.bind_some]
  refine ⟨_, rfl, ?_, ?_⟩ <;> simp (disch := omega) only [bA1] <;> omega
theorem laws_markImageS__m_eq {u : Nat} (hu : 1099511627776 ≤ u) {xs : List Image} {k : Int} (h0 : 0 ≤ k) (hk : k + ((10 * bulkL Image.bulk xs : Nat) : Int) ≤ 1099511627776) : ∃ v, laws_markImageS__m u xs k = some v ∧ k ≤ v ∧ v ≤ k + ((10 * bulkL Image.bulk xs : Nat) : Int) := by
  unfold laws_markImageS__m
  rw [laws_markImageS__m_l2_w u xs k u (by unfold bulkL at hk; omega) (by unfold bulkL at hk; omega), ← sumL_10]
  refine wlist_mk (fun x => 10 * (1 + Image.bulk x)) (fun s => rfl) (fun x i s q hx h0 h1 => ?_) xs 0 k rfl h0 (by rw [sumL_10]; exact hk)
  unfold laws_markImageS__m_l2_b
  unfold Image.bulk at h1 ⊢
  simp only [idx_nat, hx, Option.bind_some]
  obtain ⟨v0, e0, a0, b0⟩ := laws_markByteS__m_eq hu (xs := x.fB) (k := s) (by omega) (by omega)
  rw [e0]
  simp only [Option.bind_some]
  refine ⟨_, rfl, ?_, ?_⟩ <;> (try simp (disch := omega) only [bA1]) <;> omega
theorem laws_markPacketS__m_eq {u : Nat} (hu : 1099511627776 ≤ u) {xs : List Packet} {k : Int} (h0 : 0 ≤ k) (hk : k + ((10 * bulkL Packet.bulk xs : Nat) : Int) ≤ 1099511627776) : ∃ v, laws_markPacketS__m u xs k = some v ∧ k ≤ v ∧ v ≤ k + ((10 * bulkL Packet.bulk xs : Nat) : Int) := by
  unfold laws_markPacketS__m
  rw [laws_markPacketS__m_l2_w u xs k u (by unfold bulkL at hk; omega) (by unfold bulkL at hk; omega), ← sumL_10]
  refine wlist_mk (fun x => 10 * (1 + Packet.bulk x)) (fun s => rfl) (fun x i s q hx h0 h1 => ?_) xs 0 k rfl h0 (by rw [sumL_10]; exact hk)
  unfold laws_markPacketS__m_l2_b
  unfold Packet.bulk at h1 ⊢
  simp only [idx_nat, hx, Option.bind_some]
  obtain ⟨v0, e0, a0, b0⟩ := laws_markByteS__m_eq hu (xs := x.fB) (k := (s + 2)) (by omega) (by omega)
  have c0 : (bAdd .i64 (bAdd .i64 s 1) 1) = (s + 2) := by simp (disch := omega) only [bA1]; omega
  rw [c0, e0]
  simp only [Option.bind_some]
  refine ⟨_, rfl, ?_, ?_⟩ <;> (try simp (disch := omega) only [bA1]) <;> omega
theorem laws_markPutS__m_eq {u : Nat} (hu : 1099511627776 ≤ u) {xs : List Put} {k : Int} (h0 : 0 ≤ k) (hk : k + ((10 * bulkL Put.bulk xs : Nat) : Int) ≤ 1099511627776) : ∃ v, laws_markPutS__m u xs k = some v ∧ k ≤ v ∧ v ≤ k + ((10 * bulkL Put.bulk xs : Nat) : Int) := by
  unfold laws_markPutS__m
  rw [laws_markPutS__m_l2_w u xs k u (by unfold bulkL at hk; omega) (by unfold bulkL at hk; omega), ← sumL_10]
  refine wlist_mk (fun x => 10 * (1 + Put.bulk x)) (fun s => rfl) (fun x i s q hx h0 h1 => ?_) xs 0 k rfl h0 (by rw [sumL_10]; exact hk)
  unfold laws_markPutS__m_l2_b
  unfold Put.bulk at h1 ⊢
  simp only [idx_nat, hx, Option.bind_some]
  obtain ⟨v0, e0, a0, b0⟩ := laws_markByteS__m_eq hu (xs := x.fB) (k := (s + 2)) (by omega) (by omega)
  have c0 : (bAdd .i64 (bAdd .i64 s 1) 1) = (s + 2) := by simp (disch := omega) only [bA1]; omega
  rw [c0, e0]
  simp only [Option.bind_some]
  refine ⟨_, rfl, ?_, ?_⟩ <;> (try simp (disch := omega) only [bA1]) <;> omega
theorem laws_markDiskS__m_eq {u : Nat} (hu : 1099511627776 ≤ u) {xs : List Disk} {k : Int} (h0 : 0 ≤ k) (hk : k + ((10 * bulkL Disk.bulk xs : Nat) : Int) ≤ 1099511627776) : ∃ v, laws_markDiskS__m u xs k = some v ∧ k ≤ v ∧ v ≤ k + ((10 * bulkL Disk.bulk xs : Nat) : Int) := by
  unfold laws_markDiskS__m
  rw [laws_markDiskS__m_l2_w u xs k u (by unfold bulkL at hk; omega) (by unfold bulkL at hk; omega), ← sumL_10]
  refine wlist_mk (fun x => 10 * (1 + Disk.bulk x)) (fun s => rfl) (fun x i s q hx h0 h1 => ?_) xs 0 k rfl h0 (by rw [sumL_10]; exact hk)
  unfold laws_markDiskS__m_l2_b
  unfold Disk.bulk at h1 ⊢
  simp only [idx_nat, hx, Option.bind_some]
  obtain ⟨v0, e0, a0, b0⟩ := laws_markByteS__m_eq hu (xs := x.fA) (k := s) (by omega) (by omega)
  rw [e0]
  simp only [Option.bind_some]
  obtain ⟨v1, e1, a1, b1⟩ := laws_markByteS__m_eq hu (xs := x.fB) (k := v0) (by omega) (by omega)
  rw [e1]
  simp only [Option.bind_some]
  obtain ⟨v2, e2, a2, b2⟩ := laws_markPutS__m_eq hu (xs := x.fP) (k := (v1 + 3)) (by omega) (by omega)
  have c2 : (bAdd .i64 (bAdd .i64 (bAdd .i64 v1 1) 1) 1) = (v1 + 3) := by simp (disch := omega) only [bA1]; omega
  rw [c2, e2]
  simp only [Option.bind_some]
  refine ⟨_, rfl, ?_, ?_⟩ <;> (try simp (disch := omega) only [bA1]) <;> omega
theorem laws_markNodeS__m_eq {u : Nat} (hu : 1099511627776 ≤ u) {xs : List Node} {k : Int} (h0 : 0 ≤ k) (hk : k + ((10 * bulkL Node.bulk xs : Nat) : Int) ≤ 1099511627776) : ∃ v, laws_markNodeS__m u xs k = some v ∧ k ≤ v ∧ v ≤ k + ((10 * bulkL Node.bulk xs : Nat) : Int) := by
  unfold laws_markNodeS__m
  rw [laws_markNodeS__m_l2_w u xs k u (by unfold bulkL at hk; omega) (by unfold bulkL at hk; omega), ← sumL_10]
  refine wlist_mk (fun x => 10 * (1 + Node.bulk x)) (fun s => rfl) (fun x i s q hx h0 h1 => ?_) xs 0 k rfl h0 (by rw [sumL_10]; exact hk)
  unfold laws_markNodeS__m_l2_b
  unfold Node.bulk Manifest.bulk Build.bulk at h1 ⊢
  simp only [idx_nat, hx, Option.bind_some]
  obtain ⟨v0, e0, a0, b0⟩ := laws_markSumS__m_eq hu (xs := x.fMan.fSums) (k := (s + 6)) (by omega) (by omega)
  have c0 : (bAdd .i64 (bAdd .i64 (bAdd .i64 (bAdd .i64 (bAdd .i64 (bAdd .i64 s 1) 1) 1) 1) 1) 1) = (s + 6) := by simp (disch := omega) only [bA1]; omega
  rw [c0, e0]
  simp only [Option.bind_some]
  obtain ⟨v1, e1, a1, b1⟩ := laws_markByteS__m_eq hu (xs := x.fBld.fBuf) (k := (v0 + 1)) (by omega) (by omega)
  have c1 : (bAdd .i64 v0 1) = (v0 + 1) := by simp (disch := omega) only [bA1]
  rw [c1, e1]
  simp only [Option.bind_some]
  obtain ⟨v2, e2, a2, b2⟩ := laws_markKidS__m_eq hu (xs := x.fKids) (k := (v1 + 1)) (by omega) (by omega)
  have c2 : (bAdd .i64 v1 1) = (v1 + 1) := by simp (disch := omega) only [bA1]
  rw [c2, e2]
  simp only [Option.bind_some]
  refine ⟨_, rfl, ?_, ?_⟩ <;> (try simp (disch := omega) only [bA1]) <;> omega
theorem laws_markTree__m_eq {u : Nat} (hu : 1099511627776 ≤ u) {x : Tree} {k : Int} (h0 : 0 ≤ k) (hk : k + ((10 * Tree.bulk x : Nat) : Int) ≤ 1099511627776) : ∃ v, laws_markTree__m u x k = some v ∧ k ≤ v ∧ v ≤ k + ((10 * Tree.bulk x : Nat) : Int) := by
  unfold laws_markTree__m Tree.bulk at *
  obtain ⟨v, e, h1, h2⟩ := laws_markIntS__m_eq hu (xs := x.fUp) h0 hk
  exact ⟨v, by rw [e]; rfl, h1, h2⟩
theorem laws_markWorld__m_eq {u : Nat} (hu : 1099511627776 ≤ u) {x : World} {k : Int} (h0 : 0 ≤ k) (hk : k + ((10 * World.bulk x : Nat) : Int) ≤ 1099511627776) : ∃ v, laws_markWorld__m u x k = some v ∧ k ≤ v ∧ v ≤ k + ((10 * World.bulk x : Nat) : Int) := by
  unfold laws_markWorld__m
  unfold World.bulk at *
  obtain ⟨v0, e0, a0, b0⟩ := laws_markTree__m_eq hu (x := x.fT) h0 (by omega)
  obtain ⟨v1, e1, a1, b1⟩ := laws_markByteS__m_eq hu (xs := x.fNew) (k := v0) (by omega) (by omega)
  obtain ⟨v2, e2, a2, b2⟩ := laws_markImageS__m_eq hu (xs := x.fOld) (k := v1) (by omega) (by omega)
  obtain ⟨v3, e3, a3, b3⟩ := laws_markNodeS__m_eq hu (xs := x.fN) (k := v2) (by omega) (by omega)
  obtain ⟨v4, e4, a4, b4⟩ := laws_markDiskS__m_eq hu (xs := x.fD) (k := v3) (by omega) (by omega)
  obtain ⟨v5, e5, a5, b5⟩ := laws_markPacketS__m_eq hu (xs := x.fNet) (k := v4) (by omega) (by omega)
  obtain ⟨v6, e6, a6, b6⟩ := laws_markSentS__m_eq hu (xs := x.fLog) (k := v5) (by omega) (by omega)
  refine ⟨v6, ?_, by omega, by omega⟩
  simp only [e0, e1, e2, e3, e4, e5, e6, Option.bind_some]
def seqI : Int → Nat → List Int
  | _, 0 => []
  | k, n + 1 => k :: seqI (k + 1) n
theorem seqI_len : ∀ (n : Nat) (k : Int), (seqI k n).length = n
  | 0, _ => rfl
  | n + 1, k => by simp [seqI, seqI_len n]
theorem laws_markIntS__r_eq {u : Nat} (hu : 1099511627776 ≤ u) {xs : List Int} {k : Int} (h0 : 0 ≤ k) (h1 : k ≤ 1048576) (hx : xs.length ≤ 2097152) : laws_markIntS__r u xs k = some (k + (xs.length : Int), seqI k xs.length) := by
  have key : ∀ (rest pre : List Int) (q : Nat) (k : Int), rest.length < q → 0 ≤ k → k + (rest.length : Int) ≤ 8388608 → pre.length + rest.length ≤ 8388608 →
      laws_markIntS__r_l2 u q (pre ++ rest) k (pre.length : Int) = some (k + (rest.length : Int), pre ++ seqI k rest.length) := by
    intro rest
    induction rest with
    | nil =>
      intro pre q k hq h0 h1 h2
      obtain ⟨q, rfl⟩ : ∃ j, q = j + 1 := ⟨q - 1, by omega⟩
      unfold laws_markIntS__r_l2
      have : ¬ ((pre.length : Int) < (((pre ++ []).length : Nat) : Int)) := by simp
      simp only [this, decide_false, cond_false]
      simp [laws_markIntS__r_j1, seqI]
    | cons y rest ih =>
      intro pre q k hq h0 h1 h2
      obtain ⟨q, rfl⟩ : ∃ j, q = j + 1 := ⟨q - 1, by omega⟩
      simp only [List.length_cons] at hq h1 h2
      unfold laws_markIntS__r_l2
      have : ((pre.length : Int) < (((pre ++ y :: rest).length : Nat) : Int)) := by simp; omega
      simp only [this, decide_true, cond_true, idx_app, Option.bind_some]
      have hs : (pre ++ y :: rest).set (Int.toNat (pre.length : Int)) k = (pre ++ [k]) ++ rest := by simp
      rw [hs, bAdd_succ (by omega), bA1 h0 (by omega)]
      have := ih (pre ++ [k]) q (k + 1) (by omega) (by omega) (by omega) (by simp; omega)
      simp only [List.length_append, List.length_cons, List.length_nil] at this
      rw [this]
      simp only [List.length_cons, seqI, List.append_assoc, List.cons_append, List.nil_append]
      congr 2
      omega
  have := key xs [] u k (by omega) h0 (by omega) (by simp; omega)
  unfold laws_markIntS__r
  simpa using this
theorem laws_heldIntS_eq {u : Nat} (hu : 1099511627776 ≤ u) {k : Int} {n : Nat} (h0 : 0 ≤ k) (h1 : k ≤ 1048576) (hx : n ≤ 2097152) : laws_heldIntS u (seqI k n) k = some (k + (n : Int)) := by
  have key : ∀ (xs : List Int) (l : List Int) (n i : Nat) (k : Int), l = seqI k n → 0 ≤ k → k + (n : Int) ≤ 8388608 → wlist (laws_heldIntS_l2_f u xs) (laws_heldIntS_l2_b u xs) l i k = some (k + (n : Int)) := by
    intro xs l
    induction l with
    | nil =>
      intro n i k hl _ _
      cases n with
      | zero => simp [wlist, laws_heldIntS_l2_f, laws_heldIntS_j1]
      | succ n => cases hl
    | cons y l ih =>
      intro n i k hl h0 h1
      cases n with
      | zero => cases hl
      | succ n =>
        simp only [seqI, List.cons.injEq] at hl
        obtain ⟨rfl, rfl⟩ := hl
        show (bif (y != y) then some (-1) else wlist (laws_heldIntS_l2_f u xs) (laws_heldIntS_l2_b u xs) (seqI (y + 1) n) (i + 1) (bAdd .i64 y 1)) = _
        simp only [bne_self_eq_false, cond_false]
        rw [bA1 h0 (by omega), ih n (i + 1) (y + 1) rfl (by omega) (by omega)]
        congr 1
        omega
  unfold laws_heldIntS
  rw [laws_heldIntS_l2_w u (seqI k n) k u (by rw [seqI_len]; omega) (by rw [seqI_len]; omega)]
  exact key _ _ n 0 k rfl h0 (by omega)
def M.within (n a b : Int) : Bool := decide (a ≤ n) && decide (n ≤ b)
theorem within_t {n a b : Int} (h : M.within n a b = true) : a ≤ n ∧ n ≤ b := by simpa [M.within] using h
theorem within_f {n a b : Int} (h : M.within n a b = false) : n < a ∨ b < n := by
  simp [M.within] at h; omega
theorem impl_within_eq (u : Nat) (n a b : Int) : impl_within u n a b = some (M.within n a b) := by
  unfold impl_within M.within
  by_cases h : a ≤ n <;> simp [h]
theorem spec_l1In_eq (u : Nat) (n a b : Int) : spec_l1In u n a b = some (M.within n a b) := by
  unfold spec_l1In M.within
  by_cases h : a ≤ n <;> simp [h]
def M.isBytes (b : List Int) : Prop := ∀ x ∈ b, 0 ≤ x ∧ x ≤ 255
theorem impl_cloned_eq (u : Nat) {b : List Int} (hl : b.length ≤ 1073741824) : impl_cloned u b = some b := by
  unfold impl_cloned
  rw [chk_dec (by simp; omega), chk_dec (by simp; omega)]
  simp [chk]
theorem sliceOK_nat {a b n : Nat} (h1 : a ≤ b) (h2 : b ≤ n) : chk (sliceOK (a : Int) (b : Int) (n : Int)) = some () := by
  have : sliceOK (a : Int) (b : Int) (n : Int) = true := by simp [sliceOK]; omega
  rw [this]; rfl
theorem bytes_wf {b : List Int} (h : wSl (wInt .u8) b) : M.isBytes b := fun x hx => h.2 x hx
def M.imgsOk (old : List Image) : Prop := ∀ x ∈ old, M.isBytes x.fB ∧ x.fB.length ≤ 1048576
theorem imgs_wf {l : List Image} (h : wSl Image.wf l) (hb : bulkL Image.bulk l ≤ 1048576) : M.imgsOk l := fun x hx => by
  have h1 : x.fB.length ≤ bulkL Image.bulk l := bulkL_mem (f := Image.bulk) hx
  exact ⟨bytes_wf (h.2 x hx).1, by omega⟩
def M.sameBytes (a b : List Int) : Bool := (strOfNums a).toList == (strOfNums b).toList
theorem spec_SameBytes_eq (u : Nat) (a b : List Int) : spec_SameBytes u a b = some (M.sameBytes a b) := rfl
theorem impl_SameBytes_eq (u : Nat) (a b : List Int) : impl_SameBytes u a b = some (M.sameBytes a b) := rfl
theorem record_beq (x y : Record) : (([x.fGen, x.fSlot, x.fLen] : List Int) == [y.fGen, y.fSlot, y.fLen]) = decide (x = y) := by
  obtain ⟨a0, a1, a2⟩ := x
  obtain ⟨b0, b1, b2⟩ := y
  rw [Bool.eq_iff_iff]; simp
def M.nodesOk (l : List Node) : Prop := ∀ x ∈ l, x.fMan.fSums.length ≤ 1048576 ∧ x.fKids.length ≤ 1048576
def M.disksOk (l : List Disk) : Prop := ∀ x ∈ l, x.fP.length ≤ 1048576
structure M.WorldOk (w : World) : Prop where
  up : w.fT.fUp.length ≤ 1048576
  new : w.fNew.length ≤ 1048576
  old : w.fOld.length ≤ 1048576
  oldB : M.imgsOk w.fOld
  n : w.fN.length ≤ 1048576
  nodes : M.nodesOk w.fN
  d : w.fD.length ≤ 1048576
  disks : M.disksOk w.fD
  net : w.fNet.length ≤ 1048576
  log : w.fLog.length ≤ 1048576
theorem worldOk {w : World} (hw : World.wf w) (hb : World.bulk w ≤ 1048576) : M.WorldOk w := by
  have h0 := hb
  unfold World.bulk at h0
  have h1 := bulkL_len (f := Image.bulk) w.fOld
  have h2 := bulkL_len (f := Node.bulk) w.fN
  have h3 := bulkL_len (f := Disk.bulk) w.fD
  have h4 := bulkL_len (f := Packet.bulk) w.fNet
  obtain ⟨_, _, _, h5, _⟩ := hw
  have e1 : Tree.bulk w.fT = w.fT.fUp.length := rfl
  refine ⟨by omega, by omega, by omega, imgs_wf h5 (by omega), by omega, fun x hx => ?_, by omega, fun x hx => ?_, by omega, by omega⟩
  · have h6 := bulkL_mem (f := Node.bulk) hx
    unfold Node.bulk Manifest.bulk at h6
    have h7 : Node.bulk x = x.fMan.fSums.length + (x.fBld.fBuf.length + x.fKids.length) := rfl
    have h8 := bulkL_mem (f := Node.bulk) hx
    omega
  · have h8 := bulkL_mem (f := Disk.bulk) hx
    have h7 : Disk.bulk x = x.fA.length + (x.fB.length + bulkL Put.bulk x.fP) := rfl
    have h9 := bulkL_len (f := Put.bulk) x.fP
    omega
theorem len_beq (a b : Nat) : ((a : Int) == (b : Int)) = (a == b) := by rw [Bool.eq_iff_iff, beq_iff_eq, beq_iff_eq]; omega
def M.idxFrom {α : Type} (f : α → Bool) : List α → Nat → Int
  | [], _ => -1
  | x :: l, i => if f x then i else M.idxFrom f l (i + 1)
theorem wlist_index {α : Type} {fin : Unit → Option Int} {body : α → Nat → Unit → (Unit → Option Int) → Option Int} (f : α → Bool) {xs : List α} (hf : fin () = some (-1)) (hb : ∀ x i k, x ∈ xs → body x i () k = bif f x then some (i : Int) else k ()) :
    wlist fin body xs 0 () = some (M.idxFrom f xs 0) := by
  have : ∀ (l : List α) (i : Nat), (∀ y ∈ l, y ∈ xs) → wlist fin body l i () = some (M.idxFrom f l i) := by
    intro l
    induction l with
    | nil => intro i _; exact hf
    | cons x l ih =>
      intro i h
      simp only [wlist, M.idxFrom]
      rw [hb x i _ (h x (by simp)), ih (i + 1) (fun y hy => h y (by simp [hy]))]
      cases f x <;> simp
  exact this xs 0 (fun _ h => h)
theorem idxFrom_any {α : Type} (f : α → Bool) : ∀ (l : List α) (i : Nat), decide (M.idxFrom f l i ≥ 0) = l.any f := by
  intro l
  induction l with
  | nil => intro i; rfl
  | cons x l ih =>
    intro i
    rw [List.any_cons, ← ih (i + 1), Bool.eq_iff_iff]
    simp only [decide_eq_true_eq, Bool.or_eq_true]
    by_cases h : f x = true
    · simp [M.idxFrom, h]
    · simp [M.idxFrom, h]
def M.recordOk (r : Record) : Bool := M.within r.fGen 0 1000000 && M.within r.fSlot 0 1 && M.within r.fLen 0 240
theorem spec_l9Record_eq (u : Nat) (r : Record) : spec_l9Record u r = some (M.recordOk r) := by
  unfold spec_l9Record M.recordOk
  simp only [spec_l1In_eq, Option.bind_some]
  cases M.within r.fGen 0 1000000 <;> cases M.within r.fSlot 0 1 <;> rfl
theorem impl_isSlot_eq (u : Nat) (n : Int) : impl_isSlot u n = some (M.within n 0 1) := by
  unfold impl_isSlot M.within
  by_cases h0 : n = 0
  · subst h0; rfl
  · by_cases h1 : n = 1
    · subst h1; rfl
    · have e0 : (n == 0) = false := by simpa using h0
      have e1 : (n == 1) = false := by simpa using h1
      simp only [e0, e1, cond_false]
      by_cases h : 0 ≤ n
      · have : ¬ n ≤ 1 := by omega
        simp [this]
      · simp [h]
theorem impl_isRecord_eq (u : Nat) (r : Record) : impl_isRecord u r = some (M.recordOk r) := by
  unfold impl_isRecord impl_isGen M.recordOk
  simp only [impl_within_eq, impl_isSlot_eq, Option.bind_some]
  cases M.within r.fGen 0 1000000 <;> cases M.within r.fSlot 0 1 <;> rfl
def M.slotOf (d : Disk) (n : Int) : List Int := if n = 0 then d.fA else d.fB
theorem impl_slot_eq (u : Nat) (d : Disk) (n : Int) : impl_Disk__slot__frz0 u d n = some (M.slotOf d n) := by
  unfold impl_Disk__slot__frz0 M.slotOf
  by_cases h : n = 0
  · simp [h]
  · have : (n == 0) = false := by simpa using h
    simp [h, this]
theorem spec_slot_eq (u : Nat) (d : Disk) {n : Int} (h : M.within n 0 1 = true) : spec_l9Slot u d n = some (M.slotOf d n) := by
  unfold spec_l9Slot M.slotOf
  have := within_t h
  by_cases h0 : n = 0
  · subst h0; rfl
  · have : n = 1 := by omega
    subst this; rfl
def M.putOk (p : Put) : Bool := if p.fWhat = 2 then (p.fAt == 0) && (p.fB.length == 0) && M.recordOk p.fR else M.within p.fWhat 0 1 && decide (p.fR = ⟨0, 0, 0⟩) && M.within p.fAt 0 (240 - p.fB.length)
theorem record_beq0 (x : Record) : (([x.fGen, x.fSlot, x.fLen] : List Int) == [0, 0, 0]) = decide (x = ⟨0, 0, 0⟩) := record_beq x ⟨0, 0, 0⟩
theorem impl_isPut_eq (u : Nat) {p : Put} (h : p.fB.length ≤ 1048576) : impl_isPut u p = some (M.putOk p) := by
  unfold impl_isPut M.putOk
  rw [bSub_i64 (by omega) (by omega)]
  simp only [impl_isRecord_eq, impl_isSlot_eq, impl_within_eq, Option.bind_some, record_beq0]
  have e : ((p.fB.length : Int) == 0) = (p.fB.length == 0) := len_beq _ 0
  by_cases h2 : p.fWhat = 2
  · simp only [h2, beq_self_eq_true, cond_true, if_true, e]
    cases p.fAt == 0 <;> cases p.fB.length == 0 <;> rfl
  · have : (p.fWhat == 2) = false := by simpa using h2
    simp only [this, cond_false, h2, if_false]
    cases M.within p.fWhat 0 1 <;> cases decide (p.fR = ⟨0, 0, 0⟩) <;> rfl
theorem spec_l9Put_eq (u : Nat) {p : Put} (h : p.fB.length ≤ 1048576) : spec_l9Put u p = some (M.putOk p) := by
  unfold spec_l9Put M.putOk
  simp only [spec_l9Record_eq, spec_l1In_eq, Option.bind_some, record_beq0]
  have e : ((p.fB.length : Int) == 0) = (p.fB.length == 0) := len_beq _ 0
  by_cases h2 : p.fWhat = 2
  · simp only [h2, beq_self_eq_true, cond_true, if_true, e]
    cases p.fAt == 0 <;> cases p.fB.length == 0 <;> rfl
  · have : (p.fWhat == 2) = false := by simpa using h2
    simp only [this, cond_false, h2, if_false]
    cases h3 : M.within p.fAt 0 240 with
    | false =>
      have h4 : M.within p.fAt 0 (240 - p.fB.length) = false := by
        have := within_f h3
        simp [M.within]; omega
      rw [h4]
      cases M.within p.fWhat 0 1 <;> cases decide (p.fR = ⟨0, 0, 0⟩) <;> rfl
    | true =>
      have h3 := within_t h3
      rw [bSub_i64 (by omega) (by omega)]
      have h4 : M.within p.fAt 0 (240 - p.fB.length) = decide ((p.fB.length : Int) ≤ 240 - p.fAt) := by
        rw [Bool.eq_iff_iff]; simp [M.within]; omega
      rw [h4]
      cases M.within p.fWhat 0 1 <;> cases decide (p.fR = ⟨0, 0, 0⟩) <;> cases decide ((p.fB.length : Int) ≤ 240 - p.fAt) <;> rfl
def M.diskOk (d : Disk) : Bool := decide (d.fA.length ≤ 240) && decide (d.fB.length ≤ 240) && M.recordOk d.fR && decide (d.fR.fLen ≤ (M.slotOf d d.fR.fSlot).length) && decide (d.fP.length ≤ 200) && d.fP.all M.putOk
structure M.DOk (d : Disk) : Prop where
  a : d.fA.length ≤ 1048576
  b : d.fB.length ≤ 1048576
  p : d.fP.length ≤ 1048576
  puts : ∀ x ∈ d.fP, x.fB.length ≤ 1048576
theorem dok {d : Disk} (h : Disk.bulk d ≤ 1048576) : M.DOk d := by
  have e : Disk.bulk d = d.fA.length + (d.fB.length + bulkL Put.bulk d.fP) := rfl
  have := bulkL_len (f := Put.bulk) d.fP
  refine ⟨by omega, by omega, by omega, fun x hx => ?_⟩
  have h1 : x.fB.length ≤ bulkL Put.bulk d.fP := bulkL_mem (f := Put.bulk) hx
  omega
theorem contains_DiskOk {u : Nat} (hu : 1099511627776 ≤ u) {l : List Put} (hl : l.length ≤ 1048576) (hp : ∀ x ∈ l, x.fB.length ≤ 1048576) : slices_ContainsFunc___impl_Put_impl_Put__impl_DiskOk_1 u l = some (l.any fun x => !M.putOk x) := by
  unfold slices_ContainsFunc___impl_Put_impl_Put__impl_DiskOk_1 slices_IndexFunc___impl_Put_impl_Put__impl_DiskOk_1
  rw [slices_IndexFunc___impl_Put_impl_Put__impl_DiskOk_1_l2_w u l () u (by omega) (by omega), wlist_index (fun x => !M.putOk x) rfl (fun x i k hx => by unfold slices_IndexFunc___impl_Put_impl_Put__impl_DiskOk_1_l2_b impl_DiskOk_1; rw [impl_isPut_eq u (hp x hx)]; rfl)]
  simp only [Option.bind_some, idxFrom_any]
theorem not_any_not {α : Type} (f : α → Bool) (l : List α) : (!(l.any fun x => !f x)) = l.all f := by
  induction l with
  | nil => rfl
  | cons x l ih => simp only [List.any_cons, List.all_cons, Bool.not_or, Bool.not_not, ih]
theorem gt_not (a b : Int) : decide (a > b) = !decide (a ≤ b) := by
  by_cases h : a ≤ b
  · have : ¬ a > b := by omega
    simp [h, this]
  · have : a > b := by omega
    simp [h, this]
theorem le_nat (a b : Nat) : decide ((a : Int) ≤ (b : Int)) = decide (a ≤ b) := by rw [decide_eq_decide]; omega
theorem impl_DiskOk_eq {u : Nat} (hu : 1099511627776 ≤ u) {d : Disk} (hd : M.DOk d) : impl_DiskOk u d = some (M.diskOk d) := by
  unfold impl_DiskOk impl_DiskOk_j1 M.diskOk
  simp only [impl_isRecord_eq, impl_slot_eq, contains_DiskOk hu hd.p hd.puts, Option.bind_some, not_any_not, gt_not]
  have e1 : decide ((d.fA.length : Int) ≤ 240) = decide (d.fA.length ≤ 240) := le_nat _ 240
  have e2 : decide ((d.fB.length : Int) ≤ 240) = decide (d.fB.length ≤ 240) := le_nat _ 240
  have e3 : decide ((d.fP.length : Int) ≤ 200) = decide (d.fP.length ≤ 200) := le_nat _ 200
  rw [e1, e2, e3]
  cases decide (d.fA.length ≤ 240) <;> cases decide (d.fB.length ≤ 240) <;> cases M.recordOk d.fR <;> cases decide (d.fR.fLen ≤ (M.slotOf d d.fR.fSlot).length) <;> cases decide (d.fP.length ≤ 200) <;> rfl
theorem spec_DiskOk_loop {u : Nat} (hu : 1099511627776 ≤ u) {d : Disk} (hd : M.DOk d) : spec_DiskOk_l3 u u 0 d = some (d.fP.all M.putOk) := by
  have := hd.p
  rw [spec_DiskOk_l3_w u d () u (by omega) (by omega)]
  have : ∀ (l : List Put) (i : Nat), (∀ y ∈ l, y ∈ d.fP) → wlist (spec_DiskOk_l3_f u d) (spec_DiskOk_l3_b u d) l i () = some (l.all M.putOk) := by
    intro l
    induction l with
    | nil => intro i _; rfl
    | cons x l ih =>
      intro i h
      simp only [wlist, spec_DiskOk_l3_b, spec_l9Put_eq u (hd.puts x (h x (by simp))), Option.bind_some, List.all_cons]
      rw [ih (i + 1) (fun y hy => h y (by simp [hy]))]
      cases M.putOk x <;> rfl
  exact this _ 0 (fun _ h => h)
theorem recordOk_slot {r : Record} (h : M.recordOk r = true) : M.within r.fSlot 0 1 = true ∧ 0 ≤ r.fLen ∧ r.fLen ≤ 240 := by
  unfold M.recordOk at h
  simp only [Bool.and_eq_true] at h
  exact ⟨h.1.2, (within_t h.2).1, (within_t h.2).2⟩
theorem spec_DiskOk_eq {u : Nat} (hu : 1099511627776 ≤ u) {d : Disk} (hd : M.DOk d) : spec_DiskOk u d = some (M.diskOk d) := by
  unfold spec_DiskOk spec_DiskOk_j1 M.diskOk
  have e1 : decide ((d.fA.length : Int) ≤ 240) = decide (d.fA.length ≤ 240) := le_nat _ 240
  have e2 : decide ((d.fB.length : Int) ≤ 240) = decide (d.fB.length ≤ 240) := le_nat _ 240
  have e3 : decide ((d.fP.length : Int) ≤ 200) = decide (d.fP.length ≤ 200) := le_nat _ 200
  simp only [spec_l9Record_eq, spec_DiskOk_loop hu hd, Option.bind_some, gt_not, e1, e2, e3, cond_true]
  cases h : M.recordOk d.fR with
  | false => cases decide (d.fA.length ≤ 240) <;> cases decide (d.fB.length ≤ 240) <;> rfl
  | true =>
    rw [spec_slot_eq u d (recordOk_slot h).1]
    simp only [Option.bind_some]
    cases decide (d.fA.length ≤ 240) <;> cases decide (d.fB.length ≤ 240) <;> cases decide (d.fR.fLen ≤ (M.slotOf d d.fR.fSlot).length) <;> cases decide (d.fP.length ≤ 200) <;> rfl
def M.recover (d : Disk) : Int × List Int := if M.diskOk d then (d.fR.fGen, (M.slotOf d d.fR.fSlot).take d.fR.fLen.toNat) else (0, [])
theorem diskOk_parts {d : Disk} (h : M.diskOk d = true) : M.recordOk d.fR = true ∧ d.fR.fLen ≤ (M.slotOf d d.fR.fSlot).length ∧ d.fA.length ≤ 240 ∧ d.fB.length ≤ 240 ∧ d.fP.length ≤ 200 := by
  unfold M.diskOk at h
  simp only [Bool.and_eq_true, decide_eq_true_eq] at h
  obtain ⟨⟨⟨⟨⟨h1, h2⟩, h3⟩, h4⟩, h5⟩, h6⟩ := h
  exact ⟨h3, h4, h1, h2, h5⟩
theorem slotOf_le {d : Disk} (h : M.diskOk d = true) (n : Int) : (M.slotOf d n).length ≤ 240 := by
  have := diskOk_parts h
  unfold M.slotOf; split <;> omega
theorem impl_Recover_eq {u : Nat} (hu : 1099511627776 ≤ u) {d : Disk} (hd : M.DOk d) : impl_Recover u d = some (M.recover d) := by
  unfold impl_Recover M.recover
  rw [impl_DiskOk_eq hu hd, impl_slot_eq]
  simp only [Option.bind_some]
  cases h : M.diskOk d with
  | false => rfl
  | true =>
    have h1 := diskOk_parts h
    have h2 := recordOk_slot h1.1
    have h3 := slotOf_le h d.fR.fSlot
    obtain ⟨n, hn⟩ := Int.eq_ofNat_of_zero_le h2.2.1
    simp only [Bool.not_true, cond_false, if_true]
    rw [hn] at h1 ⊢
    rw [show (0 : Int) = ((0 : Nat) : Int) by rfl, sliceOK_nat (by omega) (by omega)]
    simp only [Option.bind_some, Int.toNat_natCast, List.drop_zero]
    rw [impl_cloned_eq u (by simp; omega)]; rfl
theorem spec_Recover_eq {u : Nat} (hu : 1099511627776 ≤ u) {d : Disk} (hd : M.DOk d) : spec_Recover u d = some (M.recover d) := by
  unfold spec_Recover M.recover
  rw [spec_DiskOk_eq hu hd]
  simp only [Option.bind_some]
  cases h : M.diskOk d with
  | false => rfl
  | true =>
    have h1 := diskOk_parts h
    have h2 := recordOk_slot h1.1
    have h3 := slotOf_le h d.fR.fSlot
    obtain ⟨n, hn⟩ := Int.eq_ofNat_of_zero_le h2.2.1
    rw [spec_slot_eq u d h2.1]
    simp only [Bool.not_true, cond_false, if_true, Option.bind_some]
    rw [hn] at h1 ⊢
    rw [show (0 : Int) = ((0 : Nat) : Int) by rfl, sliceOK_nat (by omega) (by omega)]
    simp only [Option.bind_some, Int.toNat_natCast, List.drop_zero]
    rw [chk_dec (by simp; omega)]; rfl
def M.holds (d : Disk) (gen : Int) (b : List Int) : Bool := ((M.recover d).1 == gen) && M.sameBytes (M.recover d).2 b
theorem impl_Holds_eq {u : Nat} (hu : 1099511627776 ≤ u) {d : Disk} (hd : M.DOk d) (gen : Int) (b : List Int) : impl_Holds u d gen b = some (M.holds d gen b) := by
  unfold impl_Holds M.holds
  rw [impl_Recover_eq hu hd]
  simp only [Option.bind_some, impl_SameBytes_eq]
  cases (M.recover d).1 == gen <;> rfl
theorem spec_Holds_eq {u : Nat} (hu : 1099511627776 ≤ u) {d : Disk} (hd : M.DOk d) (gen : Int) (b : List Int) : spec_Holds u d gen b = some (M.holds d gen b) := by
  unfold spec_Holds M.holds
  rw [spec_Recover_eq hu hd]
  simp only [Option.bind_some, spec_SameBytes_eq]
  cases (M.recover d).1 == gen <;> rfl
def M.stateOf (w : World) (k : Int) : Int := if M.within k 0 ((w.fD.length : Int) - 1) && M.within k 0 ((w.fOld.length : Int) - 1) then
    match w.fD[k.toNat]?, w.fOld[k.toNat]? with
    | some d, some x => if M.holds d 0 x.fB then 0 else if M.holds d 1 w.fNew then 1 else -1
    | _, _ => -1
  else -1
structure M.DsOk (w : World) : Prop where
  d : w.fD.length ≤ 1048576
  old : w.fOld.length ≤ 1048576
  ok : ∀ x ∈ w.fD, M.DOk x
theorem dsOk {w : World} (h : World.bulk w ≤ 1048576) : M.DsOk w := by
  have h0 := h
  unfold World.bulk at h0
  have h1 := bulkL_len (f := Image.bulk) w.fOld
  have h3 := bulkL_len (f := Disk.bulk) w.fD
  refine ⟨by omega, by omega, fun x hx => dok ?_⟩
  have := bulkL_mem (f := Disk.bulk) hx
  omega
theorem impl_StateOf_eq {u : Nat} (hu : 1099511627776 ≤ u) {w : World} (hw : M.DsOk w) (k : Int) : impl_StateOf u w k = some (M.stateOf w k) := by
  unfold impl_StateOf impl_StateOf_j1 M.stateOf
  have h1 := hw.d
  have h2 := hw.old
  rw [bSub_i64 (by omega) (by omega), bSub_i64 (by omega) (by omega), impl_within_eq, impl_within_eq]
  simp only [Option.bind_some]
  cases h : M.within k 0 ((w.fD.length : Int) - 1) with
  | false => rfl
  | true =>
    cases h' : M.within k 0 ((w.fOld.length : Int) - 1) with
    | false => rfl
    | true =>
      have h := within_t h
      have h' := within_t h'
      obtain ⟨n, rfl⟩ := Int.eq_ofNat_of_zero_le h.1
      have e1 := List.getElem?_eq_getElem (l := w.fD) (i := n) (by omega)
      have e2 := List.getElem?_eq_getElem (l := w.fOld) (i := n) (by omega)
      have hd := hw.ok _ (List.getElem_mem (l := w.fD) (n := n) (by omega))
      simp only [Bool.not_true, cond_false, idx_nat, e1, e2, Option.bind_some, impl_Holds_eq hu hd, Bool.and_self, if_true, Int.toNat_natCast]
      cases M.holds w.fD[n] 0 w.fOld[n].fB <;> cases M.holds w.fD[n] 1 w.fNew <;> rfl
theorem spec_StateOf_eq {u : Nat} (hu : 1099511627776 ≤ u) {w : World} (hw : M.DsOk w) (k : Int) : spec_StateOf u w k = some (M.stateOf w k) := by
  unfold spec_StateOf spec_StateOf_j1 M.stateOf
  have h1 := hw.d
  have h2 := hw.old
  rw [bSub_i64 (by omega) (by omega), spec_l1In_eq]
  simp only [Option.bind_some]
  cases h : M.within k 0 ((w.fD.length : Int) - 1) with
  | false => rfl
  | true =>
    have h := within_t h
    cases h' : M.within k 0 ((w.fOld.length : Int) - 1) with
    | false =>
      have h' := within_f h'
      have : k ≥ (w.fOld.length : Int) := by omega
      simp [this]
    | true =>
      have h' := within_t h'
      have h3 : ¬ (k ≥ (w.fOld.length : Int)) := by omega
      obtain ⟨n, rfl⟩ := Int.eq_ofNat_of_zero_le h.1
      have e1 := List.getElem?_eq_getElem (l := w.fD) (i := n) (by omega)
      have e2 := List.getElem?_eq_getElem (l := w.fOld) (i := n) (by omega)
      have hd := hw.ok _ (List.getElem_mem (l := w.fD) (n := n) (by omega))
      simp only [Bool.not_true, cond_false, h3, decide_false, idx_nat, e1, e2, Option.bind_some, spec_Holds_eq hu hd, Bool.and_self, if_true, Int.toNat_natCast]
      cases M.holds w.fD[n] 0 w.fOld[n].fB <;> cases M.holds w.fD[n] 1 w.fNew <;> rfl
structure M.StOk (w : World) : Prop where
  ds : M.DsOk w
  n : w.fN.length ≤ 1048576
theorem stOk {w : World} (hw : World.wf w) (h : World.bulk w ≤ 1048576) : M.StOk w := ⟨dsOk h, (worldOk hw h).n⟩
theorem delete_walk {α : Type} (z : α) (f : α → Bool) (L : Nat → List α → Int → Int → Option (List α)) (hL : ∀ k x w r, L (k + 1) x w r = bif decide (r < ((x.length : Int))) then ((idx x r).bind fun y => bif !(f y) then ((idx x w).bind fun _ => L k (x.set (Int.toNat w) y) (bAdd .i64 w 1) (bAdd .i64 r 1)) else L k x w (bAdd .i64 r 1)) else ((chk (subOK w x.length)).bind fun _ => (chk (sliceOK 0 w (x.take (Int.toNat w) ++ List.replicate (x.length - Int.toNat w) z).length)).bind fun _ => some (((x.take (Int.toNat w) ++ List.replicate (x.length - Int.toNat w) z).take (Int.toNat w)).drop (Int.toNat 0))))
    (xs : List α) (hx : xs.length ≤ 1073741824) : ∀ (m r w k : Nat) (x : List α), r + m = xs.length → m < k → x.length = xs.length → w ≤ r → x.take w = (xs.take r).filter (fun y => !f y) → x.drop r = xs.drop r → L k x w r = some (xs.filter fun y => !f y) := by
  intro m
  induction m with
  | zero =>
    intro r w k x h1 h2 h3 h4 h5 h6
    obtain ⟨k, rfl⟩ : ∃ j, k = j + 1 := ⟨k - 1, by omega⟩
    have e : ¬ ((r : Int) < (x.length : Int)) := by omega
    rw [hL]
    simp only [e, decide_false, cond_false, Int.toNat_natCast]
    have c1 : subOK (w : Int) (x.length : Int) = true := by simp only [subOK, Bool.and_eq_true, decide_eq_true_eq]; omega
    have c2 : sliceOK 0 (w : Int) ((x.take w ++ List.replicate (x.length - w) z).length : Int) = true := by
      simp only [sliceOK, Bool.and_eq_true, decide_eq_true_eq, List.length_append, List.length_take, List.length_replicate]; omega
    rw [c1, c2]
    simp only [chk_true, Option.bind_some]
    have h7 : (x.take w).length = w := by rw [List.length_take]; omega
    rw [List.take_append_of_le_length (by omega), List.take_of_length_le (by omega), h5, List.take_of_length_le (by omega)]
    rfl
  | succ m ih =>
    intro r w k x h1 h2 h3 h4 h5 h6
    obtain ⟨k, rfl⟩ : ∃ j, k = j + 1 := ⟨k - 1, by omega⟩
    have e : (r : Int) < (x.length : Int) := by omega
    have hr : xs[r]? = some xs[r] := List.getElem?_eq_getElem (by omega)
    have hxr : x[r]? = xs[r]? := by
      have := congrArg List.head? h6; simpa [List.head?_drop] using this
    have hd1 : x.drop (r + 1) = xs.drop (r + 1) := by
      have := congrArg List.tail h6; simpa [List.tail_drop] using this
    have ht : xs.take (r + 1) = xs.take r ++ [xs[r]] := by rw [List.take_add_one, hr]; rfl
    rw [hL]
    simp only [e, decide_true, cond_true, idx_nat, hxr, hr, Option.bind_some]
    have hw : x[w]? = some x[w] := List.getElem?_eq_getElem (by omega)
    have a1 : bAdd .i64 (r : Int) 1 = ((r + 1 : Nat) : Int) := bAdd_succ (by omega)
    have a2 : bAdd .i64 (w : Int) 1 = ((w + 1 : Nat) : Int) := bAdd_succ (by omega)
    cases hf : f xs[r] with
    | true =>
      simp only [Bool.not_true, cond_false, a1]
      exact ih (r + 1) w k x (by omega) (by omega) h3 (by omega) (by rw [ht, List.filter_append]; simp [hf, h5]) hd1
    | false =>
      simp only [Bool.not_false, cond_true, hw, Option.bind_some, a1, a2, Int.toNat_natCast]
      refine ih (r + 1) (w + 1) k _ (by omega) (by omega) (by simpa using h3) (by omega) ?_ ?_
      · rw [ht, List.filter_append, ← h5]
        simp only [List.filter_cons, hf, Bool.not_false, if_true, List.filter_nil]
        rw [List.take_add_one, List.take_set_of_le (Nat.le_refl w)]
        simp [show w < x.length by omega]
      · rw [List.drop_set_of_lt (by omega)]; exact hd1
theorem idxFrom_none {α : Type} (f : α → Bool) : ∀ (l : List α) (i : Nat), M.idxFrom f l i = -1 → l.filter (fun y => !f y) = l := by
  intro l
  induction l with
  | nil => intro i _; rfl
  | cons x l ih =>
    intro i h
    unfold M.idxFrom at h
    cases hf : f x with
    | true => rw [hf] at h; simp only [cond_true, if_true] at h; omega
    | false =>
      rw [hf] at h
      simp only [cond_false, Bool.false_eq_true, if_false] at h
      simp [List.filter_cons, hf, ih (i + 1) h]
theorem idxFrom_some {α : Type} (f : α → Bool) : ∀ (l : List α) (i : Nat), M.idxFrom f l i ≠ -1 → ∃ j : Nat, M.idxFrom f l i = ((i + j : Nat) : Int) ∧ j < l.length ∧ l.take j = (l.take (j + 1)).filter (fun y => !f y) := by
  intro l
  induction l with
  | nil => intro i h; exact absurd rfl h
  | cons x l ih =>
    intro i h
    unfold M.idxFrom at h ⊢
    cases hf : f x with
    | true => exact ⟨0, by simp, by simp, by simp [hf]⟩
    | false =>
      rw [hf] at h
      simp only [cond_false, Bool.false_eq_true, if_false] at h ⊢
      obtain ⟨j, h1, h2, h3⟩ := ih (i + 1) h
      exact ⟨j + 1, by rw [h1]; omega, by simp; omega, by simp [List.take_succ_cons, List.filter_cons, hf]; simpa using h3⟩
def M.isOn (w : World) (k : Nat) : Bool := match w.fN[k]? with | some n => n.fOn | none => false
def M.upIn (w : World) : List Int := ((List.range' 0 w.fN.length).filter (M.isOn w)).map fun (k : Nat) => (k : Int)
def M.lateIn (w : World) : List Int := ((List.range' 1 (w.fN.length - 1)).filter fun k => M.isOn w k && (M.stateOf w k != 1)).map fun (k : Nat) => (k : Int)
theorem wlist_sel {α ρ : Type} {fin : List Int → Option ρ} {body : α → Nat → List Int → (List Int → Option ρ) → Option ρ} (g : Nat → Bool) (p : List α) :
    ∀ (l : List α) (i : Nat) (s : List Int), l = p.drop i → s.length ≤ i → (∀ x i s k, p[i]? = some x → s.length ≤ i → body x i s k = bif g i then k (s ++ [(i : Int)]) else k s) → wlist fin body l i s = fin (s ++ ((List.range' i l.length).filter g).map fun (k : Nat) => (k : Int)) := by
  intro l
  induction l with
  | nil => intro i s _ _ _; simp [wlist]
  | cons x l ih =>
    intro i s h1 h2 h3
    have hx : p[i]? = some x := by have := congrArg List.head? h1; simpa [List.head?_drop] using this.symm
    have hl : l = p.drop (i + 1) := by have := congrArg List.tail h1; simpa [List.tail_drop] using this
    simp only [wlist, List.length_cons, List.range'_succ]
    rw [h3 x i s _ hx h2]
    cases hg : g i with
    | true => simp only [cond_true, List.filter_cons, hg, if_true, List.map_cons]; rw [ih (i + 1) _ hl (by simp; omega) h3]; simp
    | false => simp only [cond_false, List.filter_cons, hg, Bool.false_eq_true, if_false]; rw [ih (i + 1) _ hl (by omega) h3]
theorem isOn_of {w : World} {i : Nat} {x : Node} (h : w.fN[i]? = some x) : M.isOn w i = x.fOn := by unfold M.isOn; rw [h]
theorem getElem?_lt {α : Type} {l : List α} {i : Nat} {x : α} (h : l[i]? = some x) : i < l.length := by
  rcases Nat.lt_or_ge i l.length with h1 | h1
  · exact h1
  · rw [List.getElem?_eq_none h1] at h; cases h
theorem impl_UpIn_eq {u : Nat} (hu : 1099511627776 ≤ u) {w : World} (hn : w.fN.length ≤ 1048576) : impl_UpIn u w = some (M.upIn w) := by
  unfold impl_UpIn impl_World__nodesIn__impl_UpIn_1
  rw [impl_World__nodesIn__impl_UpIn_1_l2_w u w _ u (by omega) (by omega), wlist_sel (M.isOn w) w.fN w.fN 0 [] (by simp) (by simp)]
  · simp [impl_World__nodesIn__impl_UpIn_1_l2_f, impl_World__nodesIn__impl_UpIn_1_j1, M.upIn]
  · intro x i s k hx hs
    have := getElem?_lt hx
    unfold impl_World__nodesIn__impl_UpIn_1_l2_b impl_World__nodesIn__impl_UpIn_1_j3 impl_UpIn_1
    simp only [Option.bind_some, isOn_of hx]
    rw [chk_dec (by simp; omega)]; rfl
theorem upIn_length (w : World) : (M.upIn w).length ≤ w.fN.length := by
  unfold M.upIn
  rw [List.length_map]
  have := List.length_filter_le (M.isOn w) (List.range' 0 w.fN.length)
  rwa [List.length_range'] at this
theorem impl_LateIn_1_eq {u : Nat} (hu : 1099511627776 ≤ u) {w : World} (hw : M.DsOk w) (k : Int) : impl_LateIn_1 u k w = some (k == 0 || M.stateOf w k == 1) := by
  unfold impl_LateIn_1
  rw [impl_StateOf_eq hu hw]
  cases k == 0 <;> rfl
theorem DeleteLate_eq {u : Nat} (hu : 1099511627776 ≤ u) {w : World} (hw : M.DsOk w) {xs : List Int} (hx : xs.length ≤ 1048576) : slices_DeleteFunc___int_int__impl_LateIn_1 u xs w = some (xs.filter fun k => !(k == 0 || M.stateOf w k == 1)) := by
  unfold slices_DeleteFunc___int_int__impl_LateIn_1 slices_IndexFunc___int_int__impl_LateIn_1
  rw [slices_IndexFunc___int_int__impl_LateIn_1_l2_w u xs w () u (by omega) (by omega), wlist_index (fun k => k == 0 || M.stateOf w k == 1) rfl (fun x i k hx => by unfold slices_IndexFunc___int_int__impl_LateIn_1_l2_b; rw [impl_LateIn_1_eq hu hw]; rfl)]
  simp only [Option.bind_some]
  by_cases h : M.idxFrom (fun k => k == 0 || M.stateOf w k == 1) xs 0 = -1
  · rw [h, idxFrom_none _ _ _ h]; rfl
  · obtain ⟨j, h1, h2, h3⟩ := idxFrom_some _ _ _ h
    rw [h1]
    have e : (((0 + j : Nat) : Int) == -1) = false := by simp
    rw [e]
    simp only [cond_false, Nat.zero_add]
    rw [bAdd_succ (by omega)]
    refine delete_walk 0 (fun k => k == 0 || M.stateOf w k == 1) (fun k x w' r => slices_DeleteFunc___int_int__impl_LateIn_1_l2 u k x w w' r) ?_ xs (by omega) (xs.length - (j + 1)) (j + 1) j u xs (by omega) (by omega) rfl (by omega) h3 rfl
    intro k x w' r
    show slices_DeleteFunc___int_int__impl_LateIn_1_l2 u (k + 1) x w w' r = _
    rw [slices_DeleteFunc___int_int__impl_LateIn_1_l2]
    simp only [impl_LateIn_1_eq hu hw, Option.bind_some]
    rfl
theorem impl_LateIn_eq {u : Nat} (hu : 1099511627776 ≤ u) {w : World} (hw : M.StOk w) : impl_LateIn u w = some (M.lateIn w) := by
  have hn := hw.n
  have hl := upIn_length w
  unfold impl_LateIn
  rw [impl_UpIn_eq hu hn]
  simp only [Option.bind_some]
  rw [DeleteLate_eq hu hw.ds (by omega)]
  simp only [Option.bind_some, Option.some.injEq]
  unfold M.upIn M.lateIn
  rw [List.filter_map, List.filter_filter]
  cases h : w.fN.length with
  | zero => rfl
  | succ n =>
    rw [List.range'_succ, List.filter_cons]
    simp only [Function.comp, Nat.add_sub_cancel]
    rw [show (!((((0 : Nat) : Int) == 0) || M.stateOf w ((0 : Nat) : Int) == 1) && M.isOn w 0) = false by simp]
    simp only [Bool.false_eq_true, if_false]
    congr 1
    apply List.filter_congr
    intro k hk
    have hk := List.mem_range'_1.1 hk
    have : ((k : Int) == 0) = false := by simp; omega
    rw [this, Bool.false_or, Bool.and_comm]; rfl
theorem spec_LateIn_eq {u : Nat} (hu : 1099511627776 ≤ u) {w : World} (hw : M.StOk w) : spec_LateIn u w = some (M.lateIn w) := by
  have hn := hw.n
  unfold spec_LateIn
  have h := wlist_of (fin := spec_LateIn_l2_f u w) (body := spec_LateIn_l2_b u w) (xs := w.fN) (fun k s i => spec_LateIn_l2 u k s i w) (by omega) (fun _ _ _ => rfl) (w.fN.drop 1) u 1 [] rfl (by simp; omega)
  rw [show ((1 : Nat) : Int) = 1 by rfl] at h
  rw [h, wlist_sel (fun k => M.isOn w k && (M.stateOf w k != 1)) w.fN _ 1 [] rfl (by simp)]
  · simp [spec_LateIn_l2_f, spec_LateIn_j1, M.lateIn]
  · intro x i s k hx hs
    have := getElem?_lt hx
    unfold spec_LateIn_l2_b spec_LateIn_j4 spec_LateIn_j3
    rw [spec_StateOf_eq hu hw.ds, isOn_of hx]
    simp only [Option.bind_some]
    rw [chk_dec (by simp; omega)]
    cases x.fOn <;> rfl
theorem LateIn_sameL {u : Nat} (hu : 1099511627776 ≤ u) {p0 : World} (w0 : World.wf p0) (b0 : World.bulk p0 ≤ 1048576) : ∃ v, spec_LateIn u p0 = some v ∧ impl_LateIn u p0 = some v ∧ v.length ≤ 2097152 := by
  have hn := (stOk w0 b0).n
  refine ⟨_, spec_LateIn_eq hu (stOk w0 b0), impl_LateIn_eq hu (stOk w0 b0), ?_⟩
  unfold M.lateIn
  rw [List.length_map]
  have := List.length_filter_le (fun k => M.isOn p0 k && (M.stateOf p0 k != 1)) (List.range' 1 (p0.fN.length - 1))
  rw [List.length_range'] at this
  omega
theorem marks_tail {u : Nat} (hu : 1099511627776 ≤ u) {v : List Int} (hv : v.length ≤ 2097152) : laws_markIntS__r u v 1 = some (1 + (v.length : Int), seqI 1 v.length) ∧ laws_heldIntS u (seqI 1 v.length) 1 = some (1 + (v.length : Int)) :=
  ⟨laws_markIntS__r_eq hu (by omega) (by omega) hv, laws_heldIntS_eq hu (by omega) (by omega) hv⟩
theorem LateIn_law (p0 : World) (h : World.wf p0 ∧ True) : laws_FnExactLateIn 1099511627776 p0 = some true := by
  obtain ⟨w0, _⟩ := h
  have hu : 1099511627776 ≤ 1099511627776 := Nat.le_refl _
  unfold laws_FnExactLateIn
  rw [laws_szWorld_eq hu (x := p0) (n := 1048576) (by omega) (by omega) w0]
  simp only [Option.bind_some]
  by_cases b0 : ((World.bulk p0 : Nat) : Int) ≤ 1048576
  · have c0 : ¬ (1048576 - ((World.bulk p0 : Nat) : Int) < 0) := by omega
    rw [leftI_pos b0]
    simp only [c0, decide_false, cond_false]
    obtain ⟨v, e1, e2, e3⟩ := LateIn_sameL hu w0 (show _ ≤ 1048576 by omega)
    obtain ⟨k, e4, k1, k2⟩ := laws_markWorld__m_eq hu (x := p0) (k := 1) (by omega) (by omega)
    obtain ⟨e5, e6⟩ := marks_tail hu e3
    have k3 : ¬ (k < 0) := by omega
    have k4 : ¬ (1 + (v.length : Int) < 0) := by omega
    simp only [laws_toWorld_eq hu (x := p0) (by omega), laws_eqWorld_eq hu (x := p0) (by omega), laws_eqIntS_eq hu (x := v) (by omega), laws_FnExactLateIn_j1, e1, e2, e4, e5, e6, k3, k4, Option.bind_some, bne_self_eq_false, beq_self_eq_true, Bool.not_true, decide_false, cond_false]
  · rw [leftI_neg b0]; rfl
end Go.Tm.Pu
