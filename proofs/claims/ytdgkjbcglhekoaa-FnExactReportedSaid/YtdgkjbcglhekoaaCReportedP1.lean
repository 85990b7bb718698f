/- Plain laws of the functions. -/
import Derived.Test.YtdgkjbcglhekoaaCReportedD
import Derived.Test.YtdgkjbcglhekoaaPu2
set_option linter.unusedVariables false
set_option linter.unusedSimpArgs false
namespace Go.Tm.Pu
open Go.Tm
theorem laws_szByteS_eq {u : Nat} (hu : 1099511627776 ≤ u) {x : List Int} {n : Int} (h0 : 0 ≤ n) (h1 : n ≤ 1048576) (hw : (wSl (wInt .u8)) x) : laws_szByteS u x n = some (leftI n x.length) := left_len h0 h1 hw.1
theorem laws_toByteS_eq {u : Nat} (hu : 1099511627776 ≤ u) {x : List Int} (h : x.length ≤ 68719476736) : laws_toByteS u x = some x := by
  have hlen : x.length ≤ 68719476736 := by omega
  unfold laws_toByteS
  rw [chk_len, chk_dec (by rw [Int.toNat_natCast]; omega)]
  simp only [Option.bind_some, Int.toNat_natCast]
  rw [laws_toByteS_l2_w u x _ u (by omega) (by omega), wlist_copy0]
  · rfl
  · intro y i s k hx hi
    unfold laws_toByteS_l2_b
    rw [idx_nat, List.getElem?_eq_getElem hi]; simp
theorem laws_eqByteS_eq {u : Nat} (hu : 1099511627776 ≤ u) {x : List Int} (h : x.length ≤ 68719476736) : laws_eqByteS u x x = some true := by
  have hlen : x.length ≤ 68719476736 := by omega
  unfold laws_eqByteS
  simp only [bne_self_eq_false, cond_false]
  rw [laws_eqByteS_l2_w u x x () u (by omega) (by omega), wlist_all (xs := x) _ x 0 (by simp)]
  · rfl
  · intro y i k hx
    unfold laws_eqByteS_l2_b
    rw [idx_nat, hx]; simp
theorem laws_toRecord_eq (u : Nat) (x : Record) : laws_toRecord u x = some x := by
  unfold laws_toRecord
  rfl
theorem laws_eqRecord_eq (u : Nat) (x : Record) : laws_eqRecord u x x = some true := by
  unfold laws_eqRecord
  simp []
def Put.bulk (x : Put) : Nat := x.fB.length
theorem laws_szPut_eq {u : Nat} (hu : 1099511627776 ≤ u) {x : Put} {n : Int} (h0 : 0 ≤ n) (h1 : n ≤ 1048576) (hw : Put.wf x) : laws_szPut u x n = some (leftI n (Put.bulk x)) := by
  unfold laws_szPut Put.bulk
  rw [laws_szByteS_eq hu h0 h1 hw.2.2.1]
  simp only [Option.bind_some]
  exact left_last
theorem laws_toPut_eq {u : Nat} (hu : 1099511627776 ≤ u) {x : Put} (h : Put.bulk x ≤ 68719476736) : laws_toPut u x = some x := by
  unfold Put.bulk at h
  unfold laws_toPut
  rw [laws_toByteS_eq hu (by omega), laws_toRecord_eq u _]; rfl
theorem laws_eqPut_eq {u : Nat} (hu : 1099511627776 ≤ u) {x : Put} (h : Put.bulk x ≤ 68719476736) : laws_eqPut u x x = some true := by
  unfold Put.bulk at h
  unfold laws_eqPut
  simp [laws_eqByteS_eq hu (x := x.fB) (by omega), laws_eqRecord_eq]
theorem laws_toKid_eq (u : Nat) (x : Kid) : laws_toKid u x = some x := by
  unfold laws_toKid
  rfl
theorem laws_eqKid_eq (u : Nat) (x : Kid) : laws_eqKid u x x = some true := by
  unfold laws_eqKid
  simp []
theorem laws_toSum_eq (u : Nat) (x : Sum) : laws_toSum u x = some x := by
  unfold laws_toSum
  rfl
theorem laws_eqSum_eq (u : Nat) (x : Sum) : laws_eqSum u x x = some true := by
  unfold laws_eqSum
  simp []
theorem laws_szIntS_eq {u : Nat} (hu : 1099511627776 ≤ u) {x : List Int} {n : Int} (h0 : 0 ≤ n) (h1 : n ≤ 1048576) (hw : (wSl (wInt .i64)) x) : laws_szIntS u x n = some (leftI n x.length) := left_len h0 h1 hw.1
theorem laws_toIntS_eq {u : Nat} (hu : 1099511627776 ≤ u) {x : List Int} (h : x.length ≤ 68719476736) : laws_toIntS u x = some x := by
  have hlen : x.length ≤ 68719476736 := by omega
  unfold laws_toIntS
  rw [chk_len, chk_dec (by rw [Int.toNat_natCast]; omega)]
  simp only [Option.bind_some, Int.toNat_natCast]
  rw [laws_toIntS_l2_w u x _ u (by omega) (by omega), wlist_copy0]
  · rfl
  · intro y i s k hx hi
    unfold laws_toIntS_l2_b
    rw [idx_nat, List.getElem?_eq_getElem hi]; simp
theorem laws_eqIntS_eq {u : Nat} (hu : 1099511627776 ≤ u) {x : List Int} (h : x.length ≤ 68719476736) : laws_eqIntS u x x = some true := by
  have hlen : x.length ≤ 68719476736 := by omega
  unfold laws_eqIntS
  simp only [bne_self_eq_false, cond_false]
  rw [laws_eqIntS_l2_w u x x () u (by omega) (by omega), wlist_all (xs := x) _ x 0 (by simp)]
  · rfl
  · intro y i k hx
    unfold laws_eqIntS_l2_b
    rw [idx_nat, hx]; simp
def Tree.bulk (x : Tree) : Nat := x.fUp.length
theorem laws_szTree_eq {u : Nat} (hu : 1099511627776 ≤ u) {x : Tree} {n : Int} (h0 : 0 ≤ n) (h1 : n ≤ 1048576) (hw : Tree.wf x) : laws_szTree u x n = some (leftI n (Tree.bulk x)) := by
  unfold laws_szTree Tree.bulk
  rw [laws_szIntS_eq hu h0 h1 hw.1]
  simp only [Option.bind_some]
  exact left_last
theorem laws_toTree_eq {u : Nat} (hu : 1099511627776 ≤ u) {x : Tree} (h : Tree.bulk x ≤ 68719476736) : laws_toTree u x = some x := by
  unfold Tree.bulk at h
  unfold laws_toTree
  rw [laws_toIntS_eq hu (by omega)]; rfl
theorem laws_eqTree_eq {u : Nat} (hu : 1099511627776 ≤ u) {x : Tree} (h : Tree.bulk x ≤ 68719476736) : laws_eqTree u x x = some true := by
  unfold Tree.bulk at h
  unfold laws_eqTree
  simp [laws_eqIntS_eq hu (x := x.fUp) (by omega)]
theorem laws_toConf_eq (u : Nat) (x : Conf) : laws_toConf u x = some x := by
  unfold laws_toConf
  rfl
theorem laws_eqConf_eq (u : Nat) (x : Conf) : laws_eqConf u x x = some true := by
  unfold laws_eqConf
  simp []
theorem laws_szSumS_eq {u : Nat} (hu : 1099511627776 ≤ u) {x : List Sum} {n : Int} (h0 : 0 ≤ n) (h1 : n ≤ 1048576) (hw : (wSl Sum.wf) x) : laws_szSumS u x n = some (leftI n x.length) := left_len h0 h1 hw.1
theorem laws_toSumS_eq {u : Nat} (hu : 1099511627776 ≤ u) {x : List Sum} (h : x.length ≤ 68719476736) : laws_toSumS u x = some x := by
  have hlen : x.length ≤ 68719476736 := by omega
  unfold laws_toSumS
  rw [chk_len, chk_dec (by rw [Int.toNat_natCast]; omega)]
  simp only [Option.bind_some, Int.toNat_natCast]
  rw [laws_toSumS_l2_w u x _ u (by omega) (by omega), wlist_copy0]
  · rfl
  · intro y i s k hx hi
    unfold laws_toSumS_l2_b
    rw [laws_toSum_eq u _]
    rw [idx_nat, List.getElem?_eq_getElem hi]; simp
theorem laws_eqSumS_eq {u : Nat} (hu : 1099511627776 ≤ u) {x : List Sum} (h : x.length ≤ 68719476736) : laws_eqSumS u x x = some true := by
  have hlen : x.length ≤ 68719476736 := by omega
  unfold laws_eqSumS
  simp only [bne_self_eq_false, cond_false]
  rw [laws_eqSumS_l2_w u x x () u (by omega) (by omega), wlist_all (xs := x) _ x 0 (by simp)]
  · rfl
  · intro y i k hx
    unfold laws_eqSumS_l2_b
    rw [idx_nat, hx]
    simp only [Option.bind_some]
    rw [laws_eqSum_eq]; simp
def Manifest.bulk (x : Manifest) : Nat := x.fSums.length
theorem laws_szManifest_eq {u : Nat} (hu : 1099511627776 ≤ u) {x : Manifest} {n : Int} (h0 : 0 ≤ n) (h1 : n ≤ 1048576) (hw : Manifest.wf x) : laws_szManifest u x n = some (leftI n (Manifest.bulk x)) := by
  unfold laws_szManifest Manifest.bulk
  rw [laws_szSumS_eq hu h0 h1 hw.2.2.2.1]
  simp only [Option.bind_some]
  exact left_last
theorem laws_toManifest_eq {u : Nat} (hu : 1099511627776 ≤ u) {x : Manifest} (h : Manifest.bulk x ≤ 68719476736) : laws_toManifest u x = some x := by
  unfold Manifest.bulk at h
  unfold laws_toManifest
  rw [laws_toSumS_eq hu (by omega)]; rfl
theorem laws_eqManifest_eq {u : Nat} (hu : 1099511627776 ≤ u) {x : Manifest} (h : Manifest.bulk x ≤ 68719476736) : laws_eqManifest u x x = some true := by
  unfold Manifest.bulk at h
  unfold laws_eqManifest
  simp [laws_eqSumS_eq hu (x := x.fSums) (by omega)]
def Build.bulk (x : Build) : Nat := x.fBuf.length
theorem laws_szBuild_eq {u : Nat} (hu : 1099511627776 ≤ u) {x : Build} {n : Int} (h0 : 0 ≤ n) (h1 : n ≤ 1048576) (hw : Build.wf x) : laws_szBuild u x n = some (leftI n (Build.bulk x)) := by
  unfold laws_szBuild Build.bulk
  rw [laws_szByteS_eq hu h0 h1 hw.2.1]
  simp only [Option.bind_some]
  exact left_last
theorem laws_toBuild_eq {u : Nat} (hu : 1099511627776 ≤ u) {x : Build} (h : Build.bulk x ≤ 68719476736) : laws_toBuild u x = some x := by
  unfold Build.bulk at h
  unfold laws_toBuild
  rw [laws_toByteS_eq hu (by omega)]; rfl
theorem laws_eqBuild_eq {u : Nat} (hu : 1099511627776 ≤ u) {x : Build} (h : Build.bulk x ≤ 68719476736) : laws_eqBuild u x x = some true := by
  unfold Build.bulk at h
  unfold laws_eqBuild
  simp [laws_eqByteS_eq hu (x := x.fBuf) (by omega)]
theorem laws_szKidS_eq {u : Nat} (hu : 1099511627776 ≤ u) {x : List Kid} {n : Int} (h0 : 0 ≤ n) (h1 : n ≤ 1048576) (hw : (wSl Kid.wf) x) : laws_szKidS u x n = some (leftI n x.length) := left_len h0 h1 hw.1
theorem laws_toKidS_eq {u : Nat} (hu : 1099511627776 ≤ u) {x : List Kid} (h : x.length ≤ 68719476736) : laws_toKidS u x = some x := by
  have hlen : x.length ≤ 68719476736 := by omega
  unfold laws_toKidS
  rw [chk_len, chk_dec (by rw [Int.toNat_natCast]; omega)]
  simp only [Option.bind_some, Int.toNat_natCast]
  rw [laws_toKidS_l2_w u x _ u (by omega) (by omega), wlist_copy0]
  · rfl
  · intro y i s k hx hi
    unfold laws_toKidS_l2_b
    rw [laws_toKid_eq u _]
    rw [idx_nat, List.getElem?_eq_getElem hi]; simp
theorem laws_eqKidS_eq {u : Nat} (hu : 1099511627776 ≤ u) {x : List Kid} (h : x.length ≤ 68719476736) : laws_eqKidS u x x = some true := by
  have hlen : x.length ≤ 68719476736 := by omega
  unfold laws_eqKidS
  simp only [bne_self_eq_false, cond_false]
  rw [laws_eqKidS_l2_w u x x () u (by omega) (by omega), wlist_all (xs := x) _ x 0 (by simp)]
  · rfl
  · intro y i k hx
    unfold laws_eqKidS_l2_b
    rw [idx_nat, hx]
    simp only [Option.bind_some]
    rw [laws_eqKid_eq]; simp
def Node.bulk (x : Node) : Nat := Manifest.bulk x.fMan + (Build.bulk x.fBld + (x.fKids.length))
theorem laws_szNode_eq {u : Nat} (hu : 1099511627776 ≤ u) {x : Node} {n : Int} (h0 : 0 ≤ n) (h1 : n ≤ 1048576) (hw : Node.wf x) : laws_szNode u x n = some (leftI n (Node.bulk x)) := by
  unfold laws_szNode Node.bulk
  rw [laws_szManifest_eq hu h0 h1 hw.2.2.2.1]
  simp only [Option.bind_some]
  exact left_step (c := Build.bulk x.fBld + (x.fKids.length)) (f := fun r => (laws_szBuild u x.fBld r).bind fun r1 => bif decide (r1 < 0) then some (-1) else ((laws_szKidS u x.fKids r1).bind fun r2 => bif decide (r2 < 0) then some (-1) else (some r2))) (fun v0 h2v0 h3v0 => by rw [laws_szBuild_eq hu h2v0 (by omega) hw.2.2.2.2.1]; simp only [Option.bind_some]; exact left_step (c := x.fKids.length) (f := fun r => (laws_szKidS u x.fKids r).bind fun r2 => bif decide (r2 < 0) then some (-1) else (some r2)) (fun v1 h2v1 h3v1 => by rw [laws_szKidS_eq hu h2v1 (by omega) hw.2.2.2.2.2.2.1]; simp only [Option.bind_some]; exact left_last) h2v0) h0
theorem laws_toNode_eq {u : Nat} (hu : 1099511627776 ≤ u) {x : Node} (h : Node.bulk x ≤ 68719476736) : laws_toNode u x = some x := by
  unfold Node.bulk at h
  unfold laws_toNode
  rw [laws_toManifest_eq hu (by omega), laws_toBuild_eq hu (by omega), laws_toKidS_eq hu (by omega)]; rfl
theorem laws_eqNode_eq {u : Nat} (hu : 1099511627776 ≤ u) {x : Node} (h : Node.bulk x ≤ 68719476736) : laws_eqNode u x x = some true := by
  unfold Node.bulk at h
  unfold laws_eqNode
  simp [laws_eqManifest_eq hu (x := x.fMan) (by omega), laws_eqBuild_eq hu (x := x.fBld) (by omega), laws_eqKidS_eq hu (x := x.fKids) (by omega)]
theorem laws_szPutS_eq {u : Nat} (hu : 1099511627776 ≤ u) {x : List Put} {n : Int} (h0 : 0 ≤ n) (h1 : n ≤ 1048576) (hw : (wSl Put.wf) x) : laws_szPutS u x n = some (leftI n (bulkL Put.bulk x)) :=
  left_list (c := sumL Put.bulk x) (f := fun r => laws_szPutS_l2 u u x r 0) (fun hm r h2 h3 => by
    rw [laws_szPutS_l2_w u x r u (by omega) (by omega)]
    exact wlist_sz (f := Put.bulk) (fun s => rfl) (fun y i s k hy hs0 hs1 => by unfold laws_szPutS_l2_b; rw [laws_szPut_eq hu hs0 hs1 (hw.2 y hy)]; rfl) x 0 r (fun _ h => h) h2 (by omega)) h0 h1 hw.1
theorem laws_toPutS_eq {u : Nat} (hu : 1099511627776 ≤ u) {x : List Put} (h : Pu.bulkL Put.bulk x ≤ 68719476736) : laws_toPutS u x = some x := by
  have hlen : x.length ≤ 68719476736 := by have := bulkL_len (f := Put.bulk) x; omega
  unfold laws_toPutS
  rw [chk_len, chk_dec (by rw [Int.toNat_natCast]; omega)]
  simp only [Option.bind_some, Int.toNat_natCast]
  rw [laws_toPutS_l2_w u x _ u (by omega) (by omega), wlist_copy0]
  · rfl
  · intro y i s k hx hi
    unfold laws_toPutS_l2_b
    rw [laws_toPut_eq hu (Nat.le_trans (bulkL_mem (f := Put.bulk) hx) h)]
    rw [idx_nat, List.getElem?_eq_getElem hi]; simp
theorem laws_eqPutS_eq {u : Nat} (hu : 1099511627776 ≤ u) {x : List Put} (h : Pu.bulkL Put.bulk x ≤ 68719476736) : laws_eqPutS u x x = some true := by
  have hlen : x.length ≤ 68719476736 := by have := bulkL_len (f := Put.bulk) x; omega
  unfold laws_eqPutS
  simp only [bne_self_eq_false, cond_false]
  rw [laws_eqPutS_l2_w u x x () u (by omega) (by omega), wlist_all (xs := x) _ x 0 (by simp)]
  · rfl
  · intro y i k hx
    unfold laws_eqPutS_l2_b
    rw [idx_nat, hx]
    simp only [Option.bind_some]
    rw [laws_eqPut_eq hu (Nat.le_trans (bulkL_mem (f := Put.bulk) (List.mem_of_getElem? hx)) h)]; simp
def Disk.bulk (x : Disk) : Nat := x.fA.length + (x.fB.length + (Pu.bulkL Put.bulk x.fP))
theorem laws_szDisk_eq {u : Nat} (hu : 1099511627776 ≤ u) {x : Disk} {n : Int} (h0 : 0 ≤ n) (h1 : n ≤ 1048576) (hw : Disk.wf x) : laws_szDisk u x n = some (leftI n (Disk.bulk x)) := by
  unfold laws_szDisk Disk.bulk
  rw [laws_szByteS_eq hu h0 h1 hw.1]
  simp only [Option.bind_some]
  exact left_step (c := x.fB.length + (Pu.bulkL Put.bulk x.fP)) (f := fun r => (laws_szByteS u x.fB r).bind fun r1 => bif decide (r1 < 0) then some (-1) else ((laws_szPutS u x.fP r1).bind fun r2 => bif decide (r2 < 0) then some (-1) else (some r2))) (fun v0 h2v0 h3v0 => by rw [laws_szByteS_eq hu h2v0 (by omega) hw.2.1]; simp only [Option.bind_some]; exact left_step (c := Pu.bulkL Put.bulk x.fP) (f := fun r => (laws_szPutS u x.fP r).bind fun r2 => bif decide (r2 < 0) then some (-1) else (some r2)) (fun v1 h2v1 h3v1 => by rw [laws_szPutS_eq hu h2v1 (by omega) hw.2.2.2.1]; simp only [Option.bind_some]; exact left_last) h2v0) h0
theorem laws_toDisk_eq {u : Nat} (hu : 1099511627776 ≤ u) {x : Disk} (h : Disk.bulk x ≤ 68719476736) : laws_toDisk u x = some x := by
  unfold Disk.bulk at h
  unfold laws_toDisk
  rw [laws_toByteS_eq hu (by omega), laws_toByteS_eq hu (by omega), laws_toRecord_eq u _, laws_toPutS_eq hu (by omega)]; rfl
theorem laws_eqDisk_eq {u : Nat} (hu : 1099511627776 ≤ u) {x : Disk} (h : Disk.bulk x ≤ 68719476736) : laws_eqDisk u x x = some true := by
  unfold Disk.bulk at h
  unfold laws_eqDisk
  simp [laws_eqByteS_eq hu (x := x.fA) (by omega), laws_eqByteS_eq hu (x := x.fB) (by omega), laws_eqRecord_eq, laws_eqPutS_eq hu (x := x.fP) (by omega)]
theorem laws_toSent_eq (u : Nat) (x : Sent) : laws_toSent u x = some x := by
  unfold laws_toSent
  rfl
theorem laws_eqSent_eq (u : Nat) (x : Sent) : laws_eqSent u x x = some true := by
  unfold laws_eqSent
  simp []
def Image.bulk (x : Image) : Nat := x.fB.length
theorem laws_szImage_eq {u : Nat} (hu : 1099511627776 ≤ u) {x : Image} {n : Int} (h0 : 0 ≤ n) (h1 : n ≤ 1048576) (hw : Image.wf x) : laws_szImage u x n = some (leftI n (Image.bulk x)) := by
  unfold laws_szImage Image.bulk
  rw [laws_szByteS_eq hu h0 h1 hw.1]
  simp only [Option.bind_some]
  exact left_last
theorem laws_toImage_eq {u : Nat} (hu : 1099511627776 ≤ u) {x : Image} (h : Image.bulk x ≤ 68719476736) : laws_toImage u x = some x := by
  unfold Image.bulk at h
  unfold laws_toImage
  rw [laws_toByteS_eq hu (by omega)]; rfl
theorem laws_eqImage_eq {u : Nat} (hu : 1099511627776 ≤ u) {x : Image} (h : Image.bulk x ≤ 68719476736) : laws_eqImage u x x = some true := by
  unfold Image.bulk at h
  unfold laws_eqImage
  simp [laws_eqByteS_eq hu (x := x.fB) (by omega)]
theorem laws_szImageS_eq {u : Nat} (hu : 1099511627776 ≤ u) {x : List Image} {n : Int} (h0 : 0 ≤ n) (h1 : n ≤ 1048576) (hw : (wSl Image.wf) x) : laws_szImageS u x n = some (leftI n (bulkL Image.bulk x)) :=
  left_list (c := sumL Image.bulk x) (f := fun r => laws_szImageS_l2 u u x r 0) (fun hm r h2 h3 => by
    rw [laws_szImageS_l2_w u x r u (by omega) (by omega)]
    exact wlist_sz (f := Image.bulk) (fun s => rfl) (fun y i s k hy hs0 hs1 => by unfold laws_szImageS_l2_b; rw [laws_szImage_eq hu hs0 hs1 (hw.2 y hy)]; rfl) x 0 r (fun _ h => h) h2 (by omega)) h0 h1 hw.1
theorem laws_toImageS_eq {u : Nat} (hu : 1099511627776 ≤ u) {x : List Image} (h : Pu.bulkL Image.bulk x ≤ 68719476736) : laws_toImageS u x = some x := by
  have hlen : x.length ≤ 68719476736 := by have := bulkL_len (f := Image.bulk) x; omega
  unfold laws_toImageS
  rw [chk_len, chk_dec (by rw [Int.toNat_natCast]; omega)]
  simp only [Option.bind_some, Int.toNat_natCast]
  rw [laws_toImageS_l2_w u x _ u (by omega) (by omega), wlist_copy0]
  · rfl
  · intro y i s k hx hi
    unfold laws_toImageS_l2_b
    rw [laws_toImage_eq hu (Nat.le_trans (bulkL_mem (f := Image.bulk) hx) h)]
    rw [idx_nat, List.getElem?_eq_getElem hi]; simp
theorem laws_eqImageS_eq {u : Nat} (hu : 1099511627776 ≤ u) {x : List Image} (h : Pu.bulkL Image.bulk x ≤ 68719476736) : laws_eqImageS u x x = some true := by
  have hlen : x.length ≤ 68719476736 := by have := bulkL_len (f := Image.bulk) x; omega
  unfold laws_eqImageS
  simp only [bne_self_eq_false, cond_false]
  rw [laws_eqImageS_l2_w u x x () u (by omega) (by omega), wlist_all (xs := x) _ x 0 (by simp)]
  · rfl
  · intro y i k hx
    unfold laws_eqImageS_l2_b
    rw [idx_nat, hx]
    simp only [Option.bind_some]
    rw [laws_eqImage_eq hu (Nat.le_trans (bulkL_mem (f := Image.bulk) (List.mem_of_getElem? hx)) h)]; simp
theorem laws_szNodeS_eq {u : Nat} (hu : 1099511627776 ≤ u) {x : List Node} {n : Int} (h0 : 0 ≤ n) (h1 : n ≤ 1048576) (hw : (wSl Node.wf) x) : laws_szNodeS u x n = some (leftI n (bulkL Node.bulk x)) :=
  left_list (c := sumL Node.bulk x) (f := fun r => laws_szNodeS_l2 u u x r 0) (fun hm r h2 h3 => by
    rw [laws_szNodeS_l2_w u x r u (by omega) (by omega)]
    exact wlist_sz (f := Node.bulk) (fun s => rfl) (fun y i s k hy hs0 hs1 => by unfold laws_szNodeS_l2_b; rw [laws_szNode_eq hu hs0 hs1 (hw.2 y hy)]; rfl) x 0 r (fun _ h => h) h2 (by omega)) h0 h1 hw.1
theorem laws_toNodeS_eq {u : Nat} (hu : 1099511627776 ≤ u) {x : List Node} (h : Pu.bulkL Node.bulk x ≤ 68719476736) : laws_toNodeS u x = some x := by
  have hlen : x.length ≤ 68719476736 := by have := bulkL_len (f := Node.bulk) x; omega
  unfold laws_toNodeS
  rw [chk_len, chk_dec (by rw [Int.toNat_natCast]; omega)]
  simp only [Option.bind_some, Int.toNat_natCast]
  rw [laws_toNodeS_l2_w u x _ u (by omega) (by omega), wlist_copy0]
  · rfl
  · intro y i s k hx hi
    unfold laws_toNodeS_l2_b
    rw [laws_toNode_eq hu (Nat.le_trans (bulkL_mem (f := Node.bulk) hx) h)]
    rw [idx_nat, List.getElem?_eq_getElem hi]; simp
theorem laws_eqNodeS_eq {u : Nat} (hu : 1099511627776 ≤ u) {x : List Node} (h : Pu.bulkL Node.bulk x ≤ 68719476736) : laws_eqNodeS u x x = some true := by
  have hlen : x.length ≤ 68719476736 := by have := bulkL_len (f := Node.bulk) x; omega
  unfold laws_eqNodeS
  simp only [bne_self_eq_false, cond_false]
  rw [laws_eqNodeS_l2_w u x x () u (by omega) (by omega), wlist_all (xs := x) _ x 0 (by simp)]
  · rfl
  · intro y i k hx
    unfold laws_eqNodeS_l2_b
    rw [idx_nat, hx]
    simp only [Option.bind_some]
    rw [laws_eqNode_eq hu (Nat.le_trans (bulkL_mem (f := Node.bulk) (List.mem_of_getElem? hx)) h)]; simp
theorem laws_szDiskS_eq {u : Nat} (hu : 1099511627776 ≤ u) {x : List Disk} {n : Int} (h0 : 0 ≤ n) (h1 : n ≤ 1048576) (hw : (wSl Disk.wf) x) : laws_szDiskS u x n = some (leftI n (bulkL Disk.bulk x)) :=
  left_list (c := sumL Disk.bulk x) (f := fun r => laws_szDiskS_l2 u u x r 0) (fun hm r h2 h3 => by
    rw [laws_szDiskS_l2_w u x r u (by omega) (by omega)]
    exact wlist_sz (f := Disk.bulk) (fun s => rfl) (fun y i s k hy hs0 hs1 => by unfold laws_szDiskS_l2_b; rw [laws_szDisk_eq hu hs0 hs1 (hw.2 y hy)]; rfl) x 0 r (fun _ h => h) h2 (by omega)) h0 h1 hw.1
theorem laws_toDiskS_eq {u : Nat} (hu : 1099511627776 ≤ u) {x : List Disk} (h : Pu.bulkL Disk.bulk x ≤ 68719476736) : laws_toDiskS u x = some x := by
  have hlen : x.length ≤ 68719476736 := by have := bulkL_len (f := Disk.bulk) x; omega
  unfold laws_toDiskS
  rw [chk_len, chk_dec (by rw [Int.toNat_natCast]; omega)]
  simp only [Option.bind_some, Int.toNat_natCast]
  rw [laws_toDiskS_l2_w u x _ u (by omega) (by omega), wlist_copy0]
  · rfl
  · intro y i s k hx hi
    unfold laws_toDiskS_l2_b
    rw [laws_toDisk_eq hu (Nat.le_trans (bulkL_mem (f := Disk.bulk) hx) h)]
    rw [idx_nat, List.getElem?_eq_getElem hi]; simp
theorem laws_eqDiskS_eq {u : Nat} (hu : 1099511627776 ≤ u) {x : List Disk} (h : Pu.bulkL Disk.bulk x ≤ 68719476736) : laws_eqDiskS u x x = some true := by
  have hlen : x.length ≤ 68719476736 := by have := bulkL_len (f := Disk.bulk) x; omega
  unfold laws_eqDiskS
  simp only [bne_self_eq_false, cond_false]
  rw [laws_eqDiskS_l2_w u x x () u (by omega) (by omega), wlist_all (xs := x) _ x 0 (by simp)]
  · rfl
  · intro y i k hx
    unfold laws_eqDiskS_l2_b
    rw [idx_nat, hx]
    simp only [Option.bind_some]
    rw [laws_eqDisk_eq hu (Nat.le_trans (bulkL_mem (f := Disk.bulk) (List.mem_of_getElem? hx)) h)]; simp
def Packet.bulk (x : Packet) : Nat := x.fB.length
theorem laws_szPacket_eq {u : Nat} (hu : 1099511627776 ≤ u) {x : Packet} {n : Int} (h0 : 0 ≤ n) (h1 : n ≤ 1048576) (hw : Packet.wf x) : laws_szPacket u x n = some (leftI n (Packet.bulk x)) := by
  unfold laws_szPacket Packet.bulk
  rw [laws_szByteS_eq hu h0 h1 hw.2.2.1]
  simp only [Option.bind_some]
  exact left_last
theorem laws_toPacket_eq {u : Nat} (hu : 1099511627776 ≤ u) {x : Packet} (h : Packet.bulk x ≤ 68719476736) : laws_toPacket u x = some x := by
  unfold Packet.bulk at h
  unfold laws_toPacket
  rw [laws_toByteS_eq hu (by omega)]; rfl
theorem laws_eqPacket_eq {u : Nat} (hu : 1099511627776 ≤ u) {x : Packet} (h : Packet.bulk x ≤ 68719476736) : laws_eqPacket u x x = some true := by
  unfold Packet.bulk at h
  unfold laws_eqPacket
  simp [laws_eqByteS_eq hu (x := x.fB) (by omega)]
theorem laws_szPacketS_eq {u : Nat} (hu : 1099511627776 ≤ u) {x : List Packet} {n : Int} (h0 : 0 ≤ n) (h1 : n ≤ 1048576) (hw : (wSl Packet.wf) x) : laws_szPacketS u x n = some (leftI n (bulkL Packet.bulk x)) :=
  left_list (c := sumL Packet.bulk x) (f := fun r => laws_szPacketS_l2 u u x r 0) (fun hm r h2 h3 => by
    rw [laws_szPacketS_l2_w u x r u (by omega) (by omega)]
    exact wlist_sz (f := Packet.bulk) (fun s => rfl) (fun y i s k hy hs0 hs1 => by unfold laws_szPacketS_l2_b; rw [laws_szPacket_eq hu hs0 hs1 (hw.2 y hy)]; rfl) x 0 r (fun _ h => h) h2 (by omega)) h0 h1 hw.1
theorem laws_toPacketS_eq {u : Nat} (hu : 1099511627776 ≤ u) {x : List Packet} (h : Pu.bulkL Packet.bulk x ≤ 68719476736) : laws_toPacketS u x = some x := by
  have hlen : x.length ≤ 68719476736 := by have := bulkL_len (f := Packet.bulk) x; omega
  unfold laws_toPacketS
  rw [chk_len, chk_dec (by rw [Int.toNat_natCast]; omega)]
  simp only [Option.bind_some, Int.toNat_natCast]
  rw [laws_toPacketS_l2_w u x _ u (by omega) (by omega), wlist_copy0]
  · rfl
  · intro y i s k hx hi
    unfold laws_toPacketS_l2_b
    rw [laws_toPacket_eq hu (Nat.le_trans (bulkL_mem (f := Packet.bulk) hx) h)]
    rw [idx_nat, List.getElem?_eq_getElem hi]; simp
theorem laws_eqPacketS_eq {u : Nat} (hu : 1099511627776 ≤ u) {x : List Packet} (h : Pu.bulkL Packet.bulk x ≤ 68719476736) : laws_eqPacketS u x x = some true := by
  have hlen : x.length ≤ 68719476736 := by have := bulkL_len (f := Packet.bulk) x; omega
  unfold laws_eqPacketS
  simp only [bne_self_eq_false, cond_false]
  rw [laws_eqPacketS_l2_w u x x () u (by omega) (by omega), wlist_all (xs := x) _ x 0 (by simp)]
  · rfl
  · intro y i k hx
    unfold laws_eqPacketS_l2_b
    rw [idx_nat, hx]
    simp only [Option.bind_some]
    rw [laws_eqPacket_eq hu (Nat.le_trans (bulkL_mem (f := Packet.bulk) (List.mem_of_getElem? hx)) h)]; simp
theorem laws_szSentS_eq {u : Nat} (hu : 1099511627776 ≤ u) {x : List Sent} {n : Int} (h0 : 0 ≤ n) (h1 : n ≤ 1048576) (hw : (wSl Sent.wf) x) : laws_szSentS u x n = some (leftI n x.length) := left_len h0 h1 hw.1
theorem laws_toSentS_eq {u : Nat} (hu : 1099511627776 ≤ u) {x : List Sent} (h : x.length ≤ 68719476736) : laws_toSentS u x = some x := by
  have hlen : x.length ≤ 68719476736 := by omega
  unfold laws_toSentS
  rw [chk_len, chk_dec (by rw [Int.toNat_natCast]; omega)]
  simp only [Option.bind_some, Int.toNat_natCast]
  rw [laws_toSentS_l2_w u x _ u (by omega) (by omega), wlist_copy0]
  · rfl
  · intro y i s k hx hi
    unfold laws_toSentS_l2_b
    rw [laws_toSent_eq u _]
    rw [idx_nat, List.getElem?_eq_getElem hi]; simp
theorem laws_eqSentS_eq {u : Nat} (hu : 1099511627776 ≤ u) {x : List Sent} (h : x.length ≤ 68719476736) : laws_eqSentS u x x = some true := by
  have hlen : x.length ≤ 68719476736 := by omega
  unfold laws_eqSentS
  simp only [bne_self_eq_false, cond_false]
  rw [laws_eqSentS_l2_w u x x () u (by omega) (by omega), wlist_all (xs := x) _ x 0 (by simp)]
  · rfl
  · intro y i k hx
    unfold laws_eqSentS_l2_b
    rw [idx_nat, hx]
    simp only [Option.bind_some]
    rw [laws_eqSent_eq]; simp
def World.bulk (x : World) : Nat := Tree.bulk x.fT + (x.fNew.length + (Pu.bulkL Image.bulk x.fOld + (Pu.bulkL Node.bulk x.fN + (Pu.bulkL Disk.bulk x.fD + (Pu.bulkL Packet.bulk x.fNet + (x.fLog.length))))))
theorem laws_szWorld_eq {u : Nat} (hu : 1099511627776 ≤ u) {x : World} {n : Int} (h0 : 0 ≤ n) (h1 : n ≤ 1048576) (hw : World.wf x) : laws_szWorld u x n = some (leftI n (World.bulk x)) := by
  unfold laws_szWorld World.bulk
  rw [laws_szTree_eq hu h0 h1 hw.2.1]
  simp only [Option.bind_some]
  exact left_step (c := x.fNew.length + (Pu.bulkL Image.bulk x.fOld + (Pu.bulkL Node.bulk x.fN + (Pu.bulkL Disk.bulk x.fD + (Pu.bulkL Packet.bulk x.fNet + (x.fLog.length)))))) (f := fun r => (laws_szByteS u x.fNew r).bind fun r1 => bif decide (r1 < 0) then some (-1) else ((laws_szImageS u x.fOld r1).bind fun r2 => bif decide (r2 < 0) then some (-1) else ((laws_szNodeS u x.fN r2).bind fun r3 => bif decide (r3 < 0) then some (-1) else ((laws_szDiskS u x.fD r3).bind fun r4 => bif decide (r4 < 0) then some (-1) else ((laws_szPacketS u x.fNet r4).bind fun r5 => bif decide (r5 < 0) then some (-1) else ((laws_szSentS u x.fLog r5).bind fun r6 => bif decide (r6 < 0) then some (-1) else (some r6))))))) (fun v0 h2v0 h3v0 => by rw [laws_szByteS_eq hu h2v0 (by omega) hw.2.2.1]; simp only [Option.bind_some]; exact left_step (c := Pu.bulkL Image.bulk x.fOld + (Pu.bulkL Node.bulk x.fN + (Pu.bulkL Disk.bulk x.fD + (Pu.bulkL Packet.bulk x.fNet + (x.fLog.length))))) (f := fun r => (laws_szImageS u x.fOld r).bind fun r2 => bif decide (r2 < 0) then some (-1) else ((laws_szNodeS u x.fN r2).bind fun r3 => bif decide (r3 < 0) then some (-1) else ((laws_szDiskS u x.fD r3).bind fun r4 => bif decide (r4 < 0) then some (-1) else ((laws_szPacketS u x.fNet r4).bind fun r5 => bif decide (r5 < 0) then some (-1) else ((laws_szSentS u x.fLog r5).bind fun r6 => bif decide (r6 < 0) then some (-1) else (some r6)))))) (fun v1 h2v1 h3v1 => by rw [laws_szImageS_eq hu h2v1 (by omega) hw.2.2.2.1]; simp only [Option.bind_some]; exact left_step (c := Pu.bulkL Node.bulk x.fN + (Pu.bulkL Disk.bulk x.fD + (Pu.bulkL Packet.bulk x.fNet + (x.fLog.length)))) (f := fun r => (laws_szNodeS u x.fN r).bind fun r3 => bif decide (r3 < 0) then some (-1) else ((laws_szDiskS u x.fD r3).bind fun r4 => bif decide (r4 < 0) then some (-1) else ((laws_szPacketS u x.fNet r4).bind fun r5 => bif decide (r5 < 0) then some (-1) else ((laws_szSentS u x.fLog r5).bind fun r6 => bif decide (r6 < 0) then some (-1) else (some r6))))) (fun v2 h2v2 h3v2 => by rw [laws_szNodeS_eq hu h2v2 (by omega) hw.2.2.2.2.1]; simp only [Option.bind_some]; exact left_step (c := Pu.bulkL Disk.bulk x.fD + (Pu.bulkL Packet.bulk x.fNet + (x.fLog.length))) (f := fun r => (laws_szDiskS u x.fD r).bind fun r4 => bif decide (r4 < 0) then some (-1) else ((laws_szPacketS u x.fNet r4).bind fun r5 => bif decide (r5 < 0) then some (-1) else ((laws_szSentS u x.fLog r5).bind fun r6 => bif decide (r6 < 0) then some (-1) else (some r6)))) (fun v3 h2v3 h3v3 => by rw [laws_szDiskS_eq hu h2v3 (by omega) hw.2.2.2.2.2.1]; simp only [Option.bind_some]; exact left_step (c := Pu.bulkL Packet.bulk x.fNet + (x.fLog.length)) (f := fun r => (laws_szPacketS u x.fNet r).bind fun r5 => bif decide (r5 < 0) then some (-1) else ((laws_szSentS u x.fLog r5).bind fun r6 => bif decide (r6 < 0) then some (-1) else (some r6))) (fun v4 h2v4 h3v4 => by rw [laws_szPacketS_eq hu h2v4 (by omega) hw.2.2.2.2.2.2.1]; simp only [Option.bind_some]; exact left_step (c := x.fLog.length) (f := fun r => (laws_szSentS u x.fLog r).bind fun r6 => bif decide (r6 < 0) then some (-1) else (some r6)) (fun v5 h2v5 h3v5 => by rw [laws_szSentS_eq hu h2v5 (by omega) hw.2.2.2.2.2.2.2.1]; simp only [Option.bind_some]; exact left_last) h2v4) h2v3) h2v2) h2v1) h2v0) h0
theorem laws_toWorld_eq {u : Nat} (hu : 1099511627776 ≤ u) {x : World} (h : World.bulk x ≤ 68719476736) : laws_toWorld u x = some x := by
  unfold World.bulk at h
  unfold laws_toWorld
  rw [laws_toConf_eq u _, laws_toTree_eq hu (by omega), laws_toByteS_eq hu (by omega), laws_toImageS_eq hu (by omega), laws_toNodeS_eq hu (by omega), laws_toDiskS_eq hu (by omega), laws_toPacketS_eq hu (by omega), laws_toSentS_eq hu (by omega)]; rfl
theorem laws_eqWorld_eq {u : Nat} (hu : 1099511627776 ≤ u) {x : World} (h : World.bulk x ≤ 68719476736) : laws_eqWorld u x x = some true := by
  unfold World.bulk at h
  unfold laws_eqWorld
  simp [laws_eqConf_eq, laws_eqTree_eq hu (x := x.fT) (by omega), laws_eqByteS_eq hu (x := x.fNew) (by omega), laws_eqImageS_eq hu (x := x.fOld) (by omega), laws_eqNodeS_eq hu (x := x.fN) (by omega), laws_eqDiskS_eq hu (x := x.fD) (by omega), laws_eqPacketS_eq hu (x := x.fNet) (by omega), laws_eqSentS_eq hu (x := x.fLog) (by omega)]
theorem wlist_mk {α : Type} {fin : Int → Option Int} {body : α → Nat → Int → (Int → Option Int) → Option Int} {xs : List α} (f : α → Nat) (hfin : ∀ s, fin s = some s)
    (hb : ∀ x i s k, xs[i]? = some x → 0 ≤ s → s + (f x : Int) ≤ 1099511627776 → ∃ s', body x i s k = k s' ∧ s ≤ s' ∧ s' ≤ s + (f x : Int)) :
    ∀ (l : List α) (i : Nat) (s : Int), l = xs.drop i → 0 ≤ s → s + (sumL f l : Int) ≤ 1099511627776 → ∃ v, wlist fin body l i s = some v ∧ s ≤ v ∧ v ≤ s + (sumL f l : Int) := by
  intro l
  induction l with
  | nil => intro i s _ h0 h1; exact ⟨s, by rw [wlist, hfin], by omega, by simp [sumL]⟩
  | cons x l ih =>
    intro i s hl h0 h1
    simp only [sumL, Int.natCast_add] at h1 ⊢
    have hx : xs[i]? = some x := by rw [← List.head?_drop, ← hl]; rfl
    have hd : l = xs.drop (i + 1) := by rw [← List.tail_drop, ← hl]; rfl
    obtain ⟨s', e, h2, h3⟩ := hb x i s (wlist fin body l (i + 1)) hx h0 (by omega)
    obtain ⟨v, e2, h4, h5⟩ := ih (i + 1) s' hd (by omega) (by omega)
    exact ⟨v, by rw [wlist, e, e2], by omega, by omega⟩
theorem sumL_10 {α : Type} (f : α → Nat) (xs : List α) : sumL (fun x => 10 * (1 + f x)) xs = 10 * bulkL f xs := by
  unfold bulkL
  induction xs with
  | nil => rfl
  | cons x xs ih => simp only [sumL, List.length_cons, ih]; omega
theorem sumL_c {α : Type} (c : Nat) (xs : List α) : sumL (fun _ => c) xs = c * xs.length := by
  induction xs with
  | nil => rfl
  | cons x xs ih => simp only [sumL, List.length_cons, ih, Nat.mul_succ]; omega
theorem bA1 {s : Int} (h0 : 0 ≤ s) (h1 : s ≤ 1125899906842624) : bAdd .i64 s 1 = s + 1 := bAdd_i64 (by omega) (by omega)
theorem laws_markIntS__m_eq {u : Nat} (hu : 1099511627776 ≤ u) {xs : List Int} {k : Int} (h0 : 0 ≤ k) (hk : k + ((10 * xs.length : Nat) : Int) ≤ 1099511627776) : ∃ v, laws_markIntS__m u xs k = some v ∧ k ≤ v ∧ v ≤ k + ((10 * xs.length : Nat) : Int) := by
  unfold laws_markIntS__m
  rw [laws_markIntS__m_l2_w u xs k u (by omega) (by omega), ← sumL_c 10 xs]
  refine wlist_mk (fun _ => 10) (fun s => rfl) (fun x i s q hx h0 h1 => ?_) xs 0 k rfl h0 (by rw [sumL_c]; exact hk)
  unfold laws_markIntS__m_l2_b
  simp only [idx_nat, hx, Option.bind_some]
  refine ⟨_, rfl, ?_, ?_⟩ <;> simp (disch := omega) only [bA1] <;> omega
theorem laws_markByteS__m_eq {u : Nat} (hu : 1099511627776 ≤ u) {xs : List Int} {k : Int} (h0 : 0 ≤ k) (hk : k + ((10 * xs.length : Nat) : Int) ≤ 1099511627776) : ∃ v, laws_markByteS__m u xs k = some v ∧ k ≤ v ∧ v ≤ k + ((10 * xs.length : Nat) : Int) := by
  unfold laws_markByteS__m
  rw [laws_markByteS__m_l2_w u xs k u (by omega) (by omega), ← sumL_c 10 xs]
  refine wlist_mk (fun _ => 10) (fun s => rfl) (fun x i s q hx h0 h1 => ?_) xs 0 k rfl h0 (by rw [sumL_c]; exact hk)
  unfold laws_markByteS__m_l2_b
  simp only [idx_nat, hx, Option.bind_some]
  refine ⟨_, rfl, ?_, ?_⟩ <;> simp (disch := omega) only [bA1] <;> omega
theorem laws_markSumS__m_eq {u : Nat} (hu : 1099511627776 ≤ u) {xs : List Sum} {k : Int} (h0 : 0 ≤ k) (hk : k + ((10 * xs.length : Nat) : Int) ≤ 1099511627776) : ∃ v, laws_markSumS__m u xs k = some v ∧ k ≤ v ∧ v ≤ k + ((10 * xs.length : Nat) : Int) := by
  unfold laws_markSumS__m
  rw [laws_markSumS__m_l2_w u xs k u (by omega) (by omega), ← sumL_c 10 xs]
  refine wlist_mk (fun _ => 10) (fun s => rfl) (fun x i s q hx h0 h1 => ?_) xs 0 k rfl h0 (by rw [sumL_c]; exact hk)
  unfold laws_markSumS__m_l2_b
  simp only [idx_nat, hx, Option.bind_some]
  refine ⟨_, rfl, ?_, ?_⟩ <;> simp (disch := omega) only [bA1] <;> omega
theorem laws_markKidS__m_eq {u : Nat} (hu : 1099511627776 ≤ u) {xs : List Kid} {k : Int} (h0 : 0 ≤ k) (hk : k + ((10 * xs.length : Nat) : Int) ≤ 1099511627776) : ∃ v, laws_markKidS__m u xs k = some v ∧ k ≤ v ∧ v ≤ k + ((10 * xs.length : Nat) : Int) := by
  unfold laws_markKidS__m
  rw [laws_markKidS__m_l2_w u xs k u (by omega) (by omega), ← sumL_c 10 xs]
  refine wlist_mk (fun _ => 10) (fun s => rfl) (fun x i s q hx h0 h1 => ?_) xs 0 k rfl h0 (by rw [sumL_c]; exact hk)
  unfold laws_markKidS__m_l2_b
  simp only [idx_nat, hx, Option.bind_some]
  refine ⟨_, rfl, ?_, ?_⟩ <;> simp (disch := omega) only [bA1] <;> omega
theorem laws_markSentS__m_eq {u : Nat} (hu : 1099511627776 ≤ u) {xs : List Sent} {k : Int} (h0 : 0 ≤ k) (hk : k + ((10 * xs.length : Nat) : Int) ≤ 1099511627776) : ∃ v, laws_markSentS__m u xs k = some v ∧ k ≤ v ∧ v ≤ k + ((10 * xs.length : Nat) : Int) := by
  unfold laws_markSentS__m
  rw [laws_markSentS__m_l2_w u xs k u (by omega) (by omega), ← sumL_c 10 xs]
  refine wlist_mk (fun _ => 10) (fun s => rfl) (fun x i s q hx h0 h1 => ?_) xs 0 k rfl h0 (by rw [sumL_c]; exact hk)
  unfold laws_markSentS__m_l2_b
  simp only [idx_nat, hx, Option.bind_some]
  refine ⟨_, rfl, ?_, ?_⟩ <;> simp (disch := omega) only [bA1] <;> omega
theorem laws_markImageS__m_eq {u : Nat} (hu : 1099511627776 ≤ u) {xs : List Image} {k : Int} (h0 : 0 ≤ k) (hk : k + ((10 * bulkL Image.bulk xs : Nat) : Int) ≤ 1099511627776) : ∃ v, laws_markImageS__m u xs k = some v ∧ k ≤ v ∧ v ≤ k + ((10 * bulkL Image.bulk xs : Nat) : Int) := by
  unfold laws_markImageS__m
  rw [laws_markImageS__m_l2_w u xs k u (by unfold bulkL at hk; omega) (by unfold bulkL at hk; omega), ← sumL_10]
  refine wlist_mk (fun x => 10 * (1 + Image.bulk x)) (fun s => rfl) (fun x i s q hx h0 h1 => ?_) xs 0 k rfl h0 (by rw [sumL_10]; exact hk)
  unfold laws_markImageS__m_l2_b
  unfold Image.bulk at h1 ⊢
  simp only [idx_nat, hx, Option.bind_some]
  obtain ⟨v0, e0, a0, b0⟩ := laws_markByteS__m_eq hu (xs := x.fB) (k := s) (by omega) (by omega)
  rw [e0]
  simp only [Option.bind_some]
  refine ⟨_, rfl, ?_, ?_⟩ <;> (try simp (disch := omega) only [bA1]) <;> omega
theorem laws_markPacketS__m_eq {u : Nat} (hu : 1099511627776 ≤ u) {xs : List Packet} {k : Int} (h0 : 0 ≤ k) (hk : k + ((10 * bulkL Packet.bulk xs : Nat) : Int) ≤ 1099511627776) : ∃ v, laws_markPacketS__m u xs k = some v ∧ k ≤ v ∧ v ≤ k + ((10 * bulkL Packet.bulk xs : Nat) : Int) := by
  unfold laws_markPacketS__m
  rw [laws_markPacketS__m_l2_w u xs k u (by unfold bulkL at hk; omega) (by unfold bulkL at hk; omega), ← sumL_10]
  refine wlist_mk (fun x => 10 * (1 + Packet.bulk x)) (fun s => rfl) (fun x i s q hx h0 h1 => ?_) xs 0 k rfl h0 (by rw [sumL_10]; exact hk)
  unfold laws_markPacketS__m_l2_b
  unfold Packet.bulk at h1 ⊢
  simp only [idx_nat, hx, Option.bind_some]
  obtain ⟨v0, e0, a0, b0⟩ := laws_markByteS__m_eq hu (xs := x.fB) (k := (s + 2)) (by omega) (by omega)
  have c0 : (bAdd .i64 (bAdd .i64 s 1) 1) = (s + 2) := by simp (disch := omega) only [bA1]; omega
  rw [c0, e0]
  simp only [Option.bind_some]
  refine ⟨_, rfl, ?_, ?_⟩ <;> (try simp (disch := omega) only [bA1]) <;> omega
theorem laws_markPutS__m_eq {u : Nat} (hu : 1099511627776 ≤ u) {xs : List Put} {k : Int} (h0 : 0 ≤ k) (hk : k + ((10 * bulkL Put.bulk xs : Nat) : Int) ≤ 1099511627776) : ∃ v, laws_markPutS__m u xs k = some v ∧ k ≤ v ∧ v ≤ k + ((10 * bulkL Put.bulk xs : Nat) : Int) := by
  unfold laws_markPutS__m
  rw [laws_markPutS__m_l2_w u xs k u (by unfold bulkL at hk; omega) (by unfold bulkL at hk; omega), ← sumL_10]
  refine wlist_mk (fun x => 10 * (1 + Put.bulk x)) (fun s => rfl) (fun x i s q hx h0 h1 => ?_) xs 0 k rfl h0 (by rw [sumL_10]; exact hk)
  unfold laws_markPutS__m_l2_b
  unfold Put.bulk at h1 ⊢
  simp only [idx_nat, hx, Option.bind_some]
  obtain ⟨v0, e0, a0, b0⟩ := laws_markByteS__m_eq hu (xs := x.fB) (k := (s + 2)) (by omega) (by omega)
  have c0 : (bAdd .i64 (bAdd .i64 s 1) 1) = (s + 2) := by simp (disch := omega) only [bA1]; omega
  rw [c0, e0]
  simp only [Option.bind_some]
  refine ⟨_, rfl, ?_, ?_⟩ <;> (try simp (disch := omega) only [bA1]) <;> omega
theorem laws_markDiskS__m_eq {u : Nat} (hu : 1099511627776 ≤ u) {xs : List Disk} {k : Int} (h0 : 0 ≤ k) (hk : k + ((10 * bulkL Disk.bulk xs : Nat) : Int) ≤ 1099511627776) : ∃ v, laws_markDiskS__m u xs k = some v ∧ k ≤ v ∧ v ≤ k + ((10 * bulkL Disk.bulk xs : Nat) : Int) := by
  unfold laws_markDiskS__m
  rw [laws_markDiskS__m_l2_w u xs k u (by unfold bulkL at hk; omega) (by unfold bulkL at hk; omega), ← sumL_10]
  refine wlist_mk (fun x => 10 * (1 + Disk.bulk x)) (fun s => rfl) (fun x i s q hx h0 h1 => ?_) xs 0 k rfl h0 (by rw [sumL_10]; exact hk)
  unfold laws_markDiskS__m_l2_b
  unfold Disk.bulk at h1 ⊢
  simp only [idx_nat, hx, Option.bind_some]
  obtain ⟨v0, e0, a0, b0⟩ := laws_markByteS__m_eq hu (xs := x.fA) (k := s) (by omega) (by omega)
  rw [e0]
  simp only [Option.bind_some]
  obtain ⟨v1, e1, a1, b1⟩ := laws_markByteS__m_eq hu (xs := x.fB) (k := v0) (by omega) (by omega)
  rw [e1]
  simp only [Option.bind_some]
  obtain ⟨v2, e2, a2, b2⟩ := laws_markPutS__m_eq hu (xs := x.fP) (k := (v1 + 3)) (by omega) (by omega)
  have c2 : (bAdd .i64 (bAdd .i64 (bAdd .i64 v1 1) 1) 1) = (v1 + 3) := by simp (disch := omega) only [bA1]; omega
  rw [c2, e2]
  simp only [Option.bind_some]
  refine ⟨_, rfl, ?_, ?_⟩ <;> (try simp (disch := omega) only [bA1]) <;> omega
theorem laws_markNodeS__m_eq {u : Nat} (hu : 1099511627776 ≤ u) {xs : List Node} {k : Int} (h0 : 0 ≤ k) (hk : k + ((10 * bulkL Node.bulk xs : Nat) : Int) ≤ 1099511627776) : ∃ v, laws_markNodeS__m u xs k = some v ∧ k ≤ v ∧ v ≤ k + ((10 * bulkL Node.bulk xs : Nat) : Int) := by
  unfold laws_markNodeS__m
  rw [laws_markNodeS__m_l2_w u xs k u (by unfold bulkL at hk; omega) (by unfold bulkL at hk; omega), ← sumL_10]
  refine wlist_mk (fun x => 10 * (1 + Node.bulk x)) (fun s => rfl) (fun x i s q hx h0 h1 => ?_) xs 0 k rfl h0 (by rw [sumL_10]; exact hk)
  unfold laws_markNodeS__m_l2_b
  unfold Node.bulk Manifest.bulk Build.bulk at h1 ⊢
  simp only [idx_nat, hx, Option.bind_some]
  obtain ⟨v0, e0, a0, b0⟩ := laws_markSumS__m_eq hu (xs := x.fMan.fSums) (k := (s + 6)) (by omega) (by omega)
  have c0 : (bAdd .i64 (bAdd .i64 (bAdd .i64 (bAdd .i64 (bAdd .i64 (bAdd .i64 s 1) 1) 1) 1) 1) 1) = (s + 6) := by simp (disch := omega) only [bA1]; omega
  rw [c0, e0]
  simp only [Option.bind_some]
  obtain ⟨v1, e1, a1, b1⟩ := laws_markByteS__m_eq hu (xs := x.fBld.fBuf) (k := (v0 + 1)) (by omega) (by omega)
  have c1 : (bAdd .i64 v0 1) = (v0 + 1) := by simp (disch := omega) only [bA1]
  rw [c1, e1]
  simp only [Option.bind_some]
  obtain ⟨v2, e2, a2, b2⟩ := laws_markKidS__m_eq hu (xs := x.fKids) (k := (v1 + 1)) (by omega) (by omega)
  have c2 : (bAdd .i64 v1 1) = (v1 + 1) := by simp (disch := omega) only [bA1]
  rw [c2, e2]
  simp only [Option.bind_some]
  refine ⟨_, rfl, ?_, ?_⟩ <;> (try simp (disch := omega) only [bA1]) <;> omega
theorem laws_markTree__m_eq {u : Nat} (hu : 1099511627776 ≤ u) {x : Tree} {k : Int} (h0 : 0 ≤ k) (hk : k + ((10 * Tree.bulk x : Nat) : Int) ≤ 1099511627776) : ∃ v, laws_markTree__m u x k = some v ∧ k ≤ v ∧ v ≤ k + ((10 * Tree.bulk x : Nat) : Int) := by
  unfold laws_markTree__m Tree.bulk at *
  obtain ⟨v, e, h1, h2⟩ := laws_markIntS__m_eq hu (xs := x.fUp) h0 hk
  exact ⟨v, by rw [e]; rfl, h1, h2⟩
theorem laws_markWorld__m_eq {u : Nat} (hu : 1099511627776 ≤ u) {x : World} {k : Int} (h0 : 0 ≤ k) (hk : k + ((10 * World.bulk x : Nat) : Int) ≤ 1099511627776) : ∃ v, laws_markWorld__m u x k = some v ∧ k ≤ v ∧ v ≤ k + ((10 * World.bulk x : Nat) : Int) := by
  unfold laws_markWorld__m
  unfold World.bulk at *
  obtain ⟨v0, e0, a0, b0⟩ := laws_markTree__m_eq hu (x := x.fT) h0 (by omega)
  obtain ⟨v1, e1, a1, b1⟩ := laws_markByteS__m_eq hu (xs := x.fNew) (k := v0) (by omega) (by omega)
  obtain ⟨v2, e2, a2, b2⟩ := laws_markImageS__m_eq hu (xs := x.fOld) (k := v1) (by omega) (by omega)
  obtain ⟨v3, e3, a3, b3⟩ := laws_markNodeS__m_eq hu (xs := x.fN) (k := v2) (by omega) (by omega)
  obtain ⟨v4, e4, a4, b4⟩ := laws_markDiskS__m_eq hu (xs := x.fD) (k := v3) (by omega) (by omega)
  obtain ⟨v5, e5, a5, b5⟩ := laws_markPacketS__m_eq hu (xs := x.fNet) (k := v4) (by omega) (by omega)
  obtain ⟨v6, e6, a6, b6⟩ := laws_markSentS__m_eq hu (xs := x.fLog) (k := v5) (by omega) (by omega)
  refine ⟨v6, ?_, by omega, by omega⟩
  simp only [e0, e1, e2, e3, e4, e5, e6, Option.bind_some]
def seqI : Int → Nat → List Int
  | _, 0 => []
  | k, n + 1 => k :: seqI (k + 1) n
theorem seqI_len : ∀ (n : Nat) (k : Int), (seqI k n).length = n
  | 0, _ => rfl
  | n + 1, k => by simp [seqI, seqI_len n]
theorem laws_markIntS__r_eq {u : Nat} (hu : 1099511627776 ≤ u) {xs : List Int} {k : Int} (h0 : 0 ≤ k) (h1 : k ≤ 1048576) (hx : xs.length ≤ 2097152) : laws_markIntS__r u xs k = some (k + (xs.length : Int), seqI k xs.length) := by
  have key : ∀ (rest pre : List Int) (q : Nat) (k : Int), rest.length < q → 0 ≤ k → k + (rest.length : Int) ≤ 8388608 → pre.length + rest.length ≤ 8388608 →
      laws_markIntS__r_l2 u q (pre ++ rest) k (pre.length : Int) = some (k + (rest.length : Int), pre ++ seqI k rest.length) := by
    intro rest
    induction rest with
    | nil =>
      intro pre q k hq h0 h1 h2
      obtain ⟨q, rfl⟩ : ∃ j, q = j + 1 := ⟨q - 1, by omega⟩
      unfold laws_markIntS__r_l2
      have : ¬ ((pre.length : Int) < (((pre ++ []).length : Nat) : Int)) := by simp
      simp only [this, decide_false, cond_false]
      simp [laws_markIntS__r_j1, seqI]
    | cons y rest ih =>
      intro pre q k hq h0 h1 h2
      obtain ⟨q, rfl⟩ : ∃ j, q = j + 1 := ⟨q - 1, by omega⟩
      simp only [List.length_cons] at hq h1 h2
      unfold laws_markIntS__r_l2
      have : ((pre.length : Int) < (((pre ++ y :: rest).length : Nat) : Int)) := by simp; omega
      simp only [this, decide_true, cond_true, idx_app, Option.bind_some]
      have hs : (pre ++ y :: rest).set (Int.toNat (pre.length : Int)) k = (pre ++ [k]) ++ rest := by simp
      rw [hs, bAdd_succ (by omega), bA1 h0 (by omega)]
      have := ih (pre ++ [k]) q (k + 1) (by omega) (by omega) (by omega) (by simp; omega)
      simp only [List.length_append, List.length_cons, List.length_nil] at this
      rw [this]
      simp only [List.length_cons, seqI, List.append_assoc, List.cons_append, List.nil_append]
      congr 2
      omega
  have := key xs [] u k (by omega) h0 (by omega) (by simp; omega)
  unfold laws_markIntS__r
  simpa using this
theorem laws_heldIntS_eq {u : Nat} (hu : 1099511627776 ≤ u) {k : Int} {n : Nat} (h0 : 0 ≤ k) (h1 : k ≤ 1048576) (hx : n ≤ 2097152) : laws_heldIntS u (seqI k n) k = some (k + (n : Int)) := by
  have key : ∀ (xs : List Int) (l : List Int) (n i : Nat) (k : Int), l = seqI k n → 0 ≤ k → k + (n : Int) ≤ 8388608 → wlist (laws_heldIntS_l2_f u xs) (laws_heldIntS_l2_b u xs) l i k = some (k + (n : Int)) := by
    intro xs l
    induction l with
    | nil =>
      intro n i k hl _ _
      cases n with
      | zero => simp [wlist, laws_heldIntS_l2_f, laws_heldIntS_j1]
      | succ n => cases hl
    | cons y l ih =>
      intro n i k hl h0 h1
      cases n with
      | zero => cases hl
      | succ n =>
        simp only [seqI, List.cons.injEq] at hl
        obtain ⟨rfl, rfl⟩ := hl
        show (bif (y != y) then some (-1) else wlist (laws_heldIntS_l2_f u xs) (laws_heldIntS_l2_b u xs) (seqI (y + 1) n) (i + 1) (bAdd .i64 y 1)) = _
        simp only [bne_self_eq_false, cond_false]
        rw [bA1 h0 (by omega), ih n (i + 1) (y + 1) rfl (by omega) (by omega)]
        congr 1
        omega
  unfold laws_heldIntS
  rw [laws_heldIntS_l2_w u (seqI k n) k u (by rw [seqI_len]; omega) (by rw [seqI_len]; omega)]
  exact key _ _ n 0 k rfl h0 (by omega)
def M.within (n a b : Int) : Bool := decide (a ≤ n) && decide (n ≤ b)
theorem within_t {n a b : Int} (h : M.within n a b = true) : a ≤ n ∧ n ≤ b := by simpa [M.within] using h
theorem impl_within_eq (u : Nat) (n a b : Int) : impl_within u n a b = some (M.within n a b) := by
  unfold impl_within M.within
  by_cases h : a ≤ n <;> simp [h]
theorem spec_l1In_eq (u : Nat) (n a b : Int) : spec_l1In u n a b = some (M.within n a b) := by
  unfold spec_l1In M.within
  by_cases h : a ≤ n <;> simp [h]
def M.isBytes (b : List Int) : Prop := ∀ x ∈ b, 0 ≤ x ∧ x ≤ 255
theorem toNat_ofInt64 {a : Int} (h1 : 0 ≤ a) (h2 : a < 18446744073709551616) : (BitVec.ofInt 64 a).toNat = a.toNat := by
  rw [BitVec.toNat_ofInt]; omega
theorem bAnd_nat {a b : Nat} (h1 : a < 9223372036854775808) (h2 : b < 9223372036854775808) : bAnd .i64 (a : Int) (b : Int) = ((a &&& b : Nat) : Int) := by
  unfold bAnd
  have e : (BitVec.ofInt (IntKind.bits .i64) (a : Int) &&& BitVec.ofInt (IntKind.bits .i64) (b : Int)).toNat = a &&& b := by
    change (BitVec.ofInt 64 (a : Int) &&& BitVec.ofInt 64 (b : Int)).toNat = _
    rw [BitVec.toNat_and, toNat_ofInt64 (by omega) (by omega), toNat_ofInt64 (by omega) (by omega)]; rfl
  rw [e]
  have : a &&& b ≤ a := Nat.and_le_left
  exact wrap_i64 (by omega) (by omega)
theorem bShr_nat {a i : Nat} (h : i ≤ 64) : bShr .i64 (a : Int) (i : Int) = ((a / 2 ^ i : Nat) : Int) := by
  rw [bShr_k .i64 _ i h]; simp
def M.setOk (s : Int) : Bool := M.within s 0 1099511627775
def M.isPlace (i : Int) : Bool := M.within i 0 39
def M.inSet (s i : Int) : Bool := M.setOk s && M.isPlace i && s.toNat.testBit i.toNat
theorem impl_SetOk_eq (u : Nat) (s : Int) : impl_SetOk u s = some (M.setOk s) := by simp [impl_SetOk, impl_within_eq, M.setOk]
theorem spec_SetOk_eq (u : Nat) (s : Int) : spec_SetOk u s = some (M.setOk s) := by simp [spec_SetOk, spec_l1In_eq, M.setOk]
theorem impl_isPlace_eq (u : Nat) (s : Int) : impl_isPlace u s = some (M.isPlace s) := by simp [impl_isPlace, impl_within_eq, M.isPlace]
theorem bit_eq {s i : Int} (hs : M.setOk s = true) (hi : M.isPlace i = true) : (bAnd .i64 (bShr .i64 s i) 1 == 1) = s.toNat.testBit i.toNat := by
  have h1 := within_t hs
  have h2 := within_t hi
  obtain ⟨a, rfl⟩ := Int.eq_ofNat_of_zero_le h1.1
  obtain ⟨n, rfl⟩ := Int.eq_ofNat_of_zero_le h2.1
  rw [bShr_nat (by omega)]
  have h3 : a / 2 ^ n ≤ a := Nat.div_le_self a _
  rw [show (1 : Int) = ((1 : Nat) : Int) by rfl, bAnd_nat (by omega) (by omega), Nat.and_one_is_mod]
  simp only [Int.toNat_natCast, Nat.testBit_eq_decide_div_mod_eq]
  generalize a / 2 ^ n = z
  rw [Bool.eq_iff_iff, beq_iff_eq, decide_eq_true_eq]; omega
theorem impl_InSet_eq (u : Nat) (s i : Int) : impl_InSet u s i = some (M.inSet s i) := by
  unfold impl_InSet M.inSet
  simp only [impl_SetOk_eq, impl_isPlace_eq, Option.bind_some]
  cases h1 : M.setOk s with
  | false => simp
  | true =>
    cases h2 : M.isPlace i with
    | false => simp
    | true =>
      have h3 := within_t h2
      rw [chk_dec (by omega)]
      simp [bit_eq h1 h2]
theorem spec_InSet_eq (u : Nat) (s i : Int) : spec_InSet u s i = some (M.inSet s i) := by
  unfold spec_InSet M.inSet
  simp only [spec_SetOk_eq, spec_l1In_eq, Option.bind_some]
  cases h1 : M.setOk s with
  | false => simp
  | true =>
    change ((bif true then (bif M.isPlace i then _ else _) else _) : Option Bool) = _
    cases h2 : M.isPlace i with
    | false => simp
    | true =>
      have h3 := within_t h2
      simp only [cond_true]
      rw [chk_dec (by omega)]
      simp [bit_eq h1 h2]
def M.partsIn (s : Int) : List Int := if M.setOk s then ((List.range 40).filter fun i => s.toNat.testBit i).map Int.ofNat else []
theorem walk_choose {α ρ : Type} {fin : List α → Option ρ} {body : Nat → List α → (List α → Option ρ) → Option ρ} (f : Nat → Bool) (g : Nat → α) (n c : Nat) (hb : ∀ i s k, i < n → s.length ≤ c + i → body i s k = k (if f i then s ++ [g i] else s)) :
    ∀ (m i : Nat) (s : List α), i + m = n → s.length ≤ c + i → walk fin body m i s = fin (s ++ (((List.range' i m).filter f).map g)) := by
  intro m
  induction m with
  | zero => intro i s h1 h2; simp [walk]
  | succ m ih =>
    intro i s h1 h2
    simp only [walk]
    rw [hb i s _ (by omega) h2]
    cases hf : f i with
    | true =>
      simp only [if_true]
      rw [ih (i + 1) _ (by omega) (by simp; omega), List.range'_succ, List.filter_cons, hf]
      simp
    | false =>
      simp only [Bool.false_eq_true, if_false]
      rw [ih (i + 1) _ (by omega) (by omega), List.range'_succ, List.filter_cons, hf]
      simp
theorem impl_PartsIn_eq {u : Nat} (hu : 1099511627776 ≤ u) (s : Int) : impl_PartsIn u s = some (M.partsIn s) := by
  unfold impl_PartsIn
  rw [impl_PartsIn_l2_w u s [] u (by omega) (by omega), walk_choose (fun i => M.inSet s i) (fun i => (i : Int)) 40 0 _ (Int.toNat 40) 0 [] (by decide) (by simp)]
  · unfold impl_PartsIn_l2_f impl_PartsIn_j1 M.partsIn
    rw [show Int.toNat 40 = 40 by rfl, ← List.range_eq_range']
    cases h : M.setOk s with
    | false => simp [M.inSet, h]
    | true =>
      simp only [List.nil_append, if_true]
      congr 2
      apply List.filter_congr
      intro i hi
      have hi : i < 40 := by simpa using hi
      have : M.isPlace (i : Int) = true := by simp [M.isPlace, M.within]; omega
      simp [M.inSet, h, this]
  · intro i t k hi ht
    unfold impl_PartsIn_l2_b
    rw [impl_InSet_eq]
    simp only [Option.bind_some]
    cases M.inSet s i with
    | false => simp [impl_PartsIn_j3]
    | true =>
      simp only [cond_true, if_true]
      rw [chk_dec (by simp; omega)]
      simp [impl_PartsIn_j3]
theorem spec_PartsIn_eq {u : Nat} (hu : 1099511627776 ≤ u) (s : Int) : spec_PartsIn u s = some (M.partsIn s) := by
  unfold spec_PartsIn
  rw [spec_PartsIn_l2_w u s [] u (by omega) (by omega), walk_choose (fun i => M.inSet s i) (fun i => (i : Int)) 40 0 _ (Int.toNat 40) 0 [] (by decide) (by simp)]
  · unfold spec_PartsIn_l2_f spec_PartsIn_j1 M.partsIn
    rw [show Int.toNat 40 = 40 by rfl, ← List.range_eq_range']
    cases h : M.setOk s with
    | false => simp [M.inSet, h]
    | true =>
      simp only [List.nil_append, if_true]
      congr 2
      apply List.filter_congr
      intro i hi
      have hi : i < 40 := by simpa using hi
      have : M.isPlace (i : Int) = true := by simp [M.isPlace, M.within]; omega
      simp [M.inSet, h, this]
  · intro i t k hi ht
    unfold spec_PartsIn_l2_b
    rw [spec_InSet_eq]
    simp only [Option.bind_some]
    cases M.inSet s i with
    | false => simp [spec_PartsIn_j3]
    | true =>
      simp only [cond_true, if_true]
      rw [chk_dec (by simp; omega)]
      simp [spec_PartsIn_j3]
theorem partsIn_length (s : Int) : (M.partsIn s).length ≤ 40 := by
  unfold M.partsIn
  split
  · rw [List.length_map]
    have := List.length_filter_le (fun i => s.toNat.testBit i) (List.range 40)
    simpa using this
  · simp
theorem bytes_wf {b : List Int} (h : wSl (wInt .u8) b) : M.isBytes b := fun x hx => h.2 x hx
def M.imgsOk (old : List Image) : Prop := ∀ x ∈ old, M.isBytes x.fB ∧ x.fB.length ≤ 1048576
theorem imgs_wf {l : List Image} (h : wSl Image.wf l) (hb : bulkL Image.bulk l ≤ 1048576) : M.imgsOk l := fun x hx => by
  have h1 : x.fB.length ≤ bulkL Image.bulk l := bulkL_mem (f := Image.bulk) hx
  exact ⟨bytes_wf (h.2 x hx).1, by omega⟩
def M.nodesOk (l : List Node) : Prop := ∀ x ∈ l, x.fMan.fSums.length ≤ 1048576 ∧ x.fKids.length ≤ 1048576
def M.disksOk (l : List Disk) : Prop := ∀ x ∈ l, x.fP.length ≤ 1048576
structure M.WorldOk (w : World) : Prop where
  up : w.fT.fUp.length ≤ 1048576
  new : w.fNew.length ≤ 1048576
  old : w.fOld.length ≤ 1048576
  oldB : M.imgsOk w.fOld
  n : w.fN.length ≤ 1048576
  nodes : M.nodesOk w.fN
  d : w.fD.length ≤ 1048576
  disks : M.disksOk w.fD
  net : w.fNet.length ≤ 1048576
  log : w.fLog.length ≤ 1048576
theorem worldOk {w : World} (hw : World.wf w) (hb : World.bulk w ≤ 1048576) : M.WorldOk w := by
  have h0 := hb
  unfold World.bulk at h0
  have h1 := bulkL_len (f := Image.bulk) w.fOld
  have h2 := bulkL_len (f := Node.bulk) w.fN
  have h3 := bulkL_len (f := Disk.bulk) w.fD
  have h4 := bulkL_len (f := Packet.bulk) w.fNet
  obtain ⟨_, _, _, h5, _⟩ := hw
  have e1 : Tree.bulk w.fT = w.fT.fUp.length := rfl
  refine ⟨by omega, by omega, by omega, imgs_wf h5 (by omega), by omega, fun x hx => ?_, by omega, fun x hx => ?_, by omega, by omega⟩
  · have h6 := bulkL_mem (f := Node.bulk) hx
    unfold Node.bulk Manifest.bulk at h6
    have h7 : Node.bulk x = x.fMan.fSums.length + (x.fBld.fBuf.length + x.fKids.length) := rfl
    have h8 := bulkL_mem (f := Node.bulk) hx
    omega
  · have h8 := bulkL_mem (f := Disk.bulk) hx
    have h7 : Disk.bulk x = x.fA.length + (x.fB.length + bulkL Put.bulk x.fP) := rfl
    have h9 := bulkL_len (f := Put.bulk) x.fP
    omega
def M.doneS : List Kid → Int → Int
  | [], a => a
  | k :: l, a => M.doneS l (if M.setOk k.fDone then bOr .i64 a k.fDone else a)
theorem impl_DoneOf_w (u : Nat) (r : List Kid) : ∀ (l : List Kid) (i : Nat) (a : Int), wlist (impl_unionOf__impl_DoneOf_1_l2_f u r) (impl_unionOf__impl_DoneOf_1_l2_b u r) l i a = some (M.doneS l a) := by
  intro l
  induction l with
  | nil => intro i a; rfl
  | cons k l ih =>
    intro i a
    simp only [wlist, impl_unionOf__impl_DoneOf_1_l2_b, impl_unionOf__impl_DoneOf_1_j3, impl_DoneOf_1, impl_SetOk_eq, Option.bind_some, M.doneS, ih]
    cases M.setOk k.fDone <;> simp
theorem spec_DoneOf_w (u : Nat) (r : List Kid) : ∀ (l : List Kid) (i : Nat) (a : Int), l = r.drop i → wlist (spec_DoneOf_l2_f u r) (spec_DoneOf_l2_b u r) l i a = some (M.doneS l a) := by
  intro l
  induction l with
  | nil => intro i a _; rfl
  | cons k l ih =>
    intro i a hd
    have hx : r[i]? = some k := by have := congrArg List.head? hd; simpa [List.head?_drop] using this.symm
    have hl : l = r.drop (i + 1) := by have := congrArg List.tail hd; simpa [List.tail_drop] using this
    simp only [wlist, spec_DoneOf_l2_b, spec_DoneOf_j3, spec_SetOk_eq, Option.bind_some, M.doneS, idx_nat, hx, ih (i + 1) _ hl]
    cases M.setOk k.fDone <;> simp
theorem impl_DoneOf_eq {u : Nat} (hu : 1099511627776 ≤ u) {l : List Kid} (hl : l.length ≤ 1048576) : impl_DoneOf u l = some (M.doneS l 0) := by
  unfold impl_DoneOf impl_unionOf__impl_DoneOf_1
  rw [impl_unionOf__impl_DoneOf_1_l2_w u l 0 u (by omega) (by omega), impl_DoneOf_w]; rfl
theorem spec_DoneOf_eq {u : Nat} (hu : 1099511627776 ≤ u) {l : List Kid} (hl : l.length ≤ 1048576) : spec_DoneOf u l = some (M.doneS l 0) := by
  unfold spec_DoneOf
  rw [spec_DoneOf_l2_w u l 0 u (by omega) (by omega), spec_DoneOf_w u l l 0 0 (by simp)]
def M.reported (w : World) : List Int := match w.fN with
  | [] => []
  | n :: _ => M.partsIn (M.doneS n.fKids 0)
theorem impl_Reported_eq {u : Nat} (hu : 1099511627776 ≤ u) {w : World} (hw : M.nodesOk w.fN) : impl_Reported u w = some (M.reported w) := by
  unfold impl_Reported M.reported
  cases h : w.fN with
  | nil => rfl
  | cons n l =>
    have hk := (hw n (by rw [h]; simp)).2
    have e : ((((n :: l : List Node)).length : Int) == 0) = false := by simp; omega
    rw [show (0 : Int) = ((0 : Nat) : Int) by rfl, idx_nat]
    rw [show ((0 : Nat) : Int) = 0 by rfl, e]
    simp only [cond_false, List.getElem?_cons_zero, Option.bind_some, impl_DoneOf_eq hu hk, impl_PartsIn_eq hu]
theorem spec_Reported_eq {u : Nat} (hu : 1099511627776 ≤ u) {w : World} (hw : M.nodesOk w.fN) : spec_Reported u w = some (M.reported w) := by
  unfold spec_Reported M.reported
  cases h : w.fN with
  | nil => rfl
  | cons n l =>
    have hk := (hw n (by rw [h]; simp)).2
    have e : ((((n :: l : List Node)).length : Int) == 0) = false := by simp; omega
    rw [show (0 : Int) = ((0 : Nat) : Int) by rfl, idx_nat]
    rw [show ((0 : Nat) : Int) = 0 by rfl, e]
    simp only [cond_false, List.getElem?_cons_zero, Option.bind_some, spec_DoneOf_eq hu hk, spec_PartsIn_eq hu]
theorem reported_length (w : World) : (M.reported w).length ≤ 40 := by
  unfold M.reported
  split
  · simp
  · exact partsIn_length _
theorem Reported_sameL {u : Nat} (hu : 1099511627776 ≤ u) {p0 : World} (w0 : World.wf p0) (b0 : World.bulk p0 ≤ 1048576) : ∃ v, spec_Reported u p0 = some v ∧ impl_Reported u p0 = some v ∧ v.length ≤ 2097152 := by
  have h2 := reported_length p0
  exact ⟨_, spec_Reported_eq hu (worldOk w0 b0).nodes, impl_Reported_eq hu (worldOk w0 b0).nodes, by omega⟩
theorem marks_tail {u : Nat} (hu : 1099511627776 ≤ u) {v : List Int} (hv : v.length ≤ 2097152) : laws_markIntS__r u v 1 = some (1 + (v.length : Int), seqI 1 v.length) ∧ laws_heldIntS u (seqI 1 v.length) 1 = some (1 + (v.length : Int)) :=
  ⟨laws_markIntS__r_eq hu (by omega) (by omega) hv, laws_heldIntS_eq hu (by omega) (by omega) hv⟩
theorem Reported_law (p0 : World) (h : World.wf p0 ∧ True) : laws_FnExactReported 1099511627776 p0 = some true := by
  obtain ⟨w0, _⟩ := h
  have hu : 1099511627776 ≤ 1099511627776 := Nat.le_refl _
  unfold laws_FnExactReported
  rw [laws_szWorld_eq hu (x := p0) (n := 1048576) (by omega) (by omega) w0]
  simp only [Option.bind_some]
  by_cases b0 : ((World.bulk p0 : Nat) : Int) ≤ 1048576
  · have c0 : ¬ (1048576 - ((World.bulk p0 : Nat) : Int) < 0) := by omega
    rw [leftI_pos b0]
    simp only [c0, decide_false, cond_false]
    obtain ⟨v, e1, e2, e3⟩ := Reported_sameL hu w0 (show _ ≤ 1048576 by omega)
    obtain ⟨k, e4, k1, k2⟩ := laws_markWorld__m_eq hu (x := p0) (k := 1) (by omega) (by omega)
    obtain ⟨e5, e6⟩ := marks_tail hu e3
    have k3 : ¬ (k < 0) := by omega
    have k4 : ¬ (1 + (v.length : Int) < 0) := by omega
    simp only [laws_toWorld_eq hu (x := p0) (by omega), laws_eqWorld_eq hu (x := p0) (by omega), laws_eqIntS_eq hu (x := v) (by omega), laws_FnExactReported_j1, e1, e2, e4, e5, e6, k3, k4, Option.bind_some, bne_self_eq_false, beq_self_eq_true, Bool.not_true, decide_false, cond_false]
  · rw [leftI_neg b0]; rfl
end Go.Tm.Pu
