/- Plain laws of the functions. -/
import Derived.Test.YtpjnojikkfoekaaCSameButD
import Derived.Test.YtpjnojikkfoekaaPu2
set_option linter.unusedVariables false
set_option linter.unusedSimpArgs false
namespace Go.Tm.Pu
open Go.Tm
theorem laws_szByteS_eq {u : Nat} (hu : 1099511627776 ≤ u) {x : List Int} {n : Int} (h0 : 0 ≤ n) (h1 : n ≤ 1048576) (hw : (wSl (wInt .u8)) x) : laws_szByteS u x n = some (leftI n x.length) := left_len h0 h1 hw.1
theorem laws_toByteS_eq {u : Nat} (hu : 1099511627776 ≤ u) {x : List Int} (h : x.length ≤ 68719476736) : laws_toByteS u x = some x := by
  have hlen : x.length ≤ 68719476736 := by omega
  unfold laws_toByteS
  rw [chk_len, chk_dec (by rw [Int.toNat_natCast]; omega)]
  simp only [Option.bind_some, Int.toNat_natCast]
  rw [laws_toByteS_l2_w u x _ u (by omega) (by omega), wlist_copy0]
  · rfl
  · intro y i s k hx hi
    unfold laws_toByteS_l2_b
    rw [idx_nat, List.getElem?_eq_getElem hi]; simp
theorem laws_eqByteS_eq {u : Nat} (hu : 1099511627776 ≤ u) {x : List Int} (h : x.length ≤ 68719476736) : laws_eqByteS u x x = some true := by
  have hlen : x.length ≤ 68719476736 := by omega
  unfold laws_eqByteS
  simp only [bne_self_eq_false, cond_false]
  rw [laws_eqByteS_l2_w u x x () u (by omega) (by omega), wlist_all (xs := x) _ x 0 (by simp)]
  · rfl
  · intro y i k hx
    unfold laws_eqByteS_l2_b
    rw [idx_nat, hx]; simp
theorem laws_toRecord_eq (u : Nat) (x : Record) : laws_toRecord u x = some x := by
  unfold laws_toRecord
  rfl
theorem laws_eqRecord_eq (u : Nat) (x : Record) : laws_eqRecord u x x = some true := by
  unfold laws_eqRecord
  simp []
def Put.bulk (x : Put) : Nat := x.fB.length
theorem laws_szPut_eq {u : Nat} (hu : 1099511627776 ≤ u) {x : Put} {n : Int} (h0 : 0 ≤ n) (h1 : n ≤ 1048576) (hw : Put.wf x) : laws_szPut u x n = some (leftI n (Put.bulk x)) := by
  unfold laws_szPut Put.bulk
  rw [laws_szByteS_eq hu h0 h1 hw.2.2.1]
  simp only [Option.bind_some]
  exact left_last
theorem laws_toPut_eq {u : Nat} (hu : 1099511627776 ≤ u) {x : Put} (h : Put.bulk x ≤ 68719476736) : laws_toPut u x = some x := by
  unfold Put.bulk at h
  unfold laws_toPut
  rw [laws_toByteS_eq hu (by omega), laws_toRecord_eq u _]; rfl
theorem laws_eqPut_eq {u : Nat} (hu : 1099511627776 ≤ u) {x : Put} (h : Put.bulk x ≤ 68719476736) : laws_eqPut u x x = some true := by
  unfold Put.bulk at h
  unfold laws_eqPut
  simp [laws_eqByteS_eq hu (x := x.fB) (by omega), laws_eqRecord_eq]
theorem laws_toKid_eq (u : Nat) (x : Kid) : laws_toKid u x = some x := by
  unfold laws_toKid
  rfl
theorem laws_eqKid_eq (u : Nat) (x : Kid) : laws_eqKid u x x = some true := by
  unfold laws_eqKid
  simp []
theorem laws_toSum_eq (u : Nat) (x : Sum) : laws_toSum u x = some x := by
  unfold laws_toSum
  rfl
theorem laws_eqSum_eq (u : Nat) (x : Sum) : laws_eqSum u x x = some true := by
  unfold laws_eqSum
  simp []
theorem laws_szIntS_eq {u : Nat} (hu : 1099511627776 ≤ u) {x : List Int} {n : Int} (h0 : 0 ≤ n) (h1 : n ≤ 1048576) (hw : (wSl (wInt .i64)) x) : laws_szIntS u x n = some (leftI n x.length) := left_len h0 h1 hw.1
theorem laws_toIntS_eq {u : Nat} (hu : 1099511627776 ≤ u) {x : List Int} (h : x.length ≤ 68719476736) : laws_toIntS u x = some x := by
  have hlen : x.length ≤ 68719476736 := by omega
  unfold laws_toIntS
  rw [chk_len, chk_dec (by rw [Int.toNat_natCast]; omega)]
  simp only [Option.bind_some, Int.toNat_natCast]
  rw [laws_toIntS_l2_w u x _ u (by omega) (by omega), wlist_copy0]
  · rfl
  · intro y i s k hx hi
    unfold laws_toIntS_l2_b
    rw [idx_nat, List.getElem?_eq_getElem hi]; simp
theorem laws_eqIntS_eq {u : Nat} (hu : 1099511627776 ≤ u) {x : List Int} (h : x.length ≤ 68719476736) : laws_eqIntS u x x = some true := by
  have hlen : x.length ≤ 68719476736 := by omega
  unfold laws_eqIntS
  simp only [bne_self_eq_false, cond_false]
  rw [laws_eqIntS_l2_w u x x () u (by omega) (by omega), wlist_all (xs := x) _ x 0 (by simp)]
  · rfl
  · intro y i k hx
    unfold laws_eqIntS_l2_b
    rw [idx_nat, hx]; simp
def Tree.bulk (x : Tree) : Nat := x.fUp.length
theorem laws_szTree_eq {u : Nat} (hu : 1099511627776 ≤ u) {x : Tree} {n : Int} (h0 : 0 ≤ n) (h1 : n ≤ 1048576) (hw : Tree.wf x) : laws_szTree u x n = some (leftI n (Tree.bulk x)) := by
  unfold laws_szTree Tree.bulk
  rw [laws_szIntS_eq hu h0 h1 hw.1]
  simp only [Option.bind_some]
  exact left_last
theorem laws_toTree_eq {u : Nat} (hu : 1099511627776 ≤ u) {x : Tree} (h : Tree.bulk x ≤ 68719476736) : laws_toTree u x = some x := by
  unfold Tree.bulk at h
  unfold laws_toTree
  rw [laws_toIntS_eq hu (by omega)]; rfl
theorem laws_eqTree_eq {u : Nat} (hu : 1099511627776 ≤ u) {x : Tree} (h : Tree.bulk x ≤ 68719476736) : laws_eqTree u x x = some true := by
  unfold Tree.bulk at h
  unfold laws_eqTree
  simp [laws_eqIntS_eq hu (x := x.fUp) (by omega)]
theorem laws_toConf_eq (u : Nat) (x : Conf) : laws_toConf u x = some x := by
  unfold laws_toConf
  rfl
theorem laws_eqConf_eq (u : Nat) (x : Conf) : laws_eqConf u x x = some true := by
  unfold laws_eqConf
  simp []
theorem laws_szSumS_eq {u : Nat} (hu : 1099511627776 ≤ u) {x : List Sum} {n : Int} (h0 : 0 ≤ n) (h1 : n ≤ 1048576) (hw : (wSl Sum.wf) x) : laws_szSumS u x n = some (leftI n x.length) := left_len h0 h1 hw.1
theorem laws_toSumS_eq {u : Nat} (hu : 1099511627776 ≤ u) {x : List Sum} (h : x.length ≤ 68719476736) : laws_toSumS u x = some x := by
  have hlen : x.length ≤ 68719476736 := by omega
  unfold laws_toSumS
  rw [chk_len, chk_dec (by rw [Int.toNat_natCast]; omega)]
  simp only [Option.bind_some, Int.toNat_natCast]
  rw [laws_toSumS_l2_w u x _ u (by omega) (by omega), wlist_copy0]
  · rfl
  · intro y i s k hx hi
    unfold laws_toSumS_l2_b
    rw [laws_toSum_eq u _]
    rw [idx_nat, List.getElem?_eq_getElem hi]; simp
theorem laws_eqSumS_eq {u : Nat} (hu : 1099511627776 ≤ u) {x : List Sum} (h : x.length ≤ 68719476736) : laws_eqSumS u x x = some true := by
  have hlen : x.length ≤ 68719476736 := by omega
  unfold laws_eqSumS
  simp only [bne_self_eq_false, cond_false]
  rw [laws_eqSumS_l2_w u x x () u (by omega) (by omega), wlist_all (xs := x) _ x 0 (by simp)]
  · rfl
  · intro y i k hx
    unfold laws_eqSumS_l2_b
    rw [idx_nat, hx]
    simp only [Option.bind_some]
    rw [laws_eqSum_eq]; simp
def Manifest.bulk (x : Manifest) : Nat := x.fSums.length
theorem laws_szManifest_eq {u : Nat} (hu : 1099511627776 ≤ u) {x : Manifest} {n : Int} (h0 : 0 ≤ n) (h1 : n ≤ 1048576) (hw : Manifest.wf x) : laws_szManifest u x n = some (leftI n (Manifest.bulk x)) := by
  unfold laws_szManifest Manifest.bulk
  rw [laws_szSumS_eq hu h0 h1 hw.2.2.2.1]
  simp only [Option.bind_some]
  exact left_last
theorem laws_toManifest_eq {u : Nat} (hu : 1099511627776 ≤ u) {x : Manifest} (h : Manifest.bulk x ≤ 68719476736) : laws_toManifest u x = some x := by
  unfold Manifest.bulk at h
  unfold laws_toManifest
  rw [laws_toSumS_eq hu (by omega)]; rfl
theorem laws_eqManifest_eq {u : Nat} (hu : 1099511627776 ≤ u) {x : Manifest} (h : Manifest.bulk x ≤ 68719476736) : laws_eqManifest u x x = some true := by
  unfold Manifest.bulk at h
  unfold laws_eqManifest
  simp [laws_eqSumS_eq hu (x := x.fSums) (by omega)]
def Build.bulk (x : Build) : Nat := x.fBuf.length
theorem laws_szBuild_eq {u : Nat} (hu : 1099511627776 ≤ u) {x : Build} {n : Int} (h0 : 0 ≤ n) (h1 : n ≤ 1048576) (hw : Build.wf x) : laws_szBuild u x n = some (leftI n (Build.bulk x)) := by
  unfold laws_szBuild Build.bulk
  rw [laws_szByteS_eq hu h0 h1 hw.2.1]
  simp only [Option.bind_some]
  exact left_last
theorem laws_toBuild_eq {u : Nat} (hu : 1099511627776 ≤ u) {x : Build} (h : Build.bulk x ≤ 68719476736) : laws_toBuild u x = some x := by
  unfold Build.bulk at h
  unfold laws_toBuild
  rw [laws_toByteS_eq hu (by omega)]; rfl
theorem laws_eqBuild_eq {u : Nat} (hu : 1099511627776 ≤ u) {x : Build} (h : Build.bulk x ≤ 68719476736) : laws_eqBuild u x x = some true := by
  unfold Build.bulk at h
  unfold laws_eqBuild
  simp [laws_eqByteS_eq hu (x := x.fBuf) (by omega)]
theorem laws_szKidS_eq {u : Nat} (hu : 1099511627776 ≤ u) {x : List Kid} {n : Int} (h0 : 0 ≤ n) (h1 : n ≤ 1048576) (hw : (wSl Kid.wf) x) : laws_szKidS u x n = some (leftI n x.length) := left_len h0 h1 hw.1
theorem laws_toKidS_eq {u : Nat} (hu : 1099511627776 ≤ u) {x : List Kid} (h : x.length ≤ 68719476736) : laws_toKidS u x = some x := by
  have hlen : x.length ≤ 68719476736 := by omega
  unfold laws_toKidS
  rw [chk_len, chk_dec (by rw [Int.toNat_natCast]; omega)]
  simp only [Option.bind_some, Int.toNat_natCast]
  rw [laws_toKidS_l2_w u x _ u (by omega) (by omega), wlist_copy0]
  · rfl
  · intro y i s k hx hi
    unfold laws_toKidS_l2_b
    rw [laws_toKid_eq u _]
    rw [idx_nat, List.getElem?_eq_getElem hi]; simp
theorem laws_eqKidS_eq {u : Nat} (hu : 1099511627776 ≤ u) {x : List Kid} (h : x.length ≤ 68719476736) : laws_eqKidS u x x = some true := by
  have hlen : x.length ≤ 68719476736 := by omega
  unfold laws_eqKidS
  simp only [bne_self_eq_false, cond_false]
  rw [laws_eqKidS_l2_w u x x () u (by omega) (by omega), wlist_all (xs := x) _ x 0 (by simp)]
  · rfl
  · intro y i k hx
    unfold laws_eqKidS_l2_b
    rw [idx_nat, hx]
    simp only [Option.bind_some]
    rw [laws_eqKid_eq]; simp
def Node.bulk (x : Node) : Nat := Manifest.bulk x.fMan + (Build.bulk x.fBld + (x.fKids.length))
theorem laws_szNode_eq {u : Nat} (hu : 1099511627776 ≤ u) {x : Node} {n : Int} (h0 : 0 ≤ n) (h1 : n ≤ 1048576) (hw : Node.wf x) : laws_szNode u x n = some (leftI n (Node.bulk x)) := by
  unfold laws_szNode Node.bulk
  rw [laws_szManifest_eq hu h0 h1 hw.2.2.2.1]
  simp only [Option.bind_some]
  exact left_step (c := Build.bulk x.fBld + (x.fKids.length)) (f := fun r => (laws_szBuild u x.fBld r).bind fun r1 => bif decide (r1 < 0) then some (-1) else ((laws_szKidS u x.fKids r1).bind fun r2 => bif decide (r2 < 0) then some (-1) else (some r2))) (fun v0 h2v0 h3v0 => by rw [laws_szBuild_eq hu h2v0 (by omega) hw.2.2.2.2.1]; simp only [Option.bind_some]; exact left_step (c := x.fKids.length) (f := fun r => (laws_szKidS u x.fKids r).bind fun r2 => bif decide (r2 < 0) then some (-1) else (some r2)) (fun v1 h2v1 h3v1 => by rw [laws_szKidS_eq hu h2v1 (by omega) hw.2.2.2.2.2.2.1]; simp only [Option.bind_some]; exact left_last) h2v0) h0
theorem laws_toNode_eq {u : Nat} (hu : 1099511627776 ≤ u) {x : Node} (h : Node.bulk x ≤ 68719476736) : laws_toNode u x = some x := by
  unfold Node.bulk at h
  unfold laws_toNode
  rw [laws_toManifest_eq hu (by omega), laws_toBuild_eq hu (by omega), laws_toKidS_eq hu (by omega)]; rfl
theorem laws_eqNode_eq {u : Nat} (hu : 1099511627776 ≤ u) {x : Node} (h : Node.bulk x ≤ 68719476736) : laws_eqNode u x x = some true := by
  unfold Node.bulk at h
  unfold laws_eqNode
  simp [laws_eqManifest_eq hu (x := x.fMan) (by omega), laws_eqBuild_eq hu (x := x.fBld) (by omega), laws_eqKidS_eq hu (x := x.fKids) (by omega)]
theorem laws_szPutS_eq {u : Nat} (hu : 1099511627776 ≤ u) {x : List Put} {n : Int} (h0 : 0 ≤ n) (h1 : n ≤ 1048576) (hw : (wSl Put.wf) x) : laws_szPutS u x n = some (leftI n (bulkL Put.bulk x)) :=
  left_list (c := sumL Put.bulk x) (f := fun r => laws_szPutS_l2 u u x r 0) (fun hm r h2 h3 => by
    rw [laws_szPutS_l2_w u x r u (by omega) (by omega)]
    exact wlist_sz (f := Put.bulk) (fun s => rfl) (fun y i s k hy hs0 hs1 => by unfold laws_szPutS_l2_b; rw [laws_szPut_eq hu hs0 hs1 (hw.2 y hy)]; rfl) x 0 r (fun _ h => h) h2 (by omega)) h0 h1 hw.1
theorem laws_toPutS_eq {u : Nat} (hu : 1099511627776 ≤ u) {x : List Put} (h : Pu.bulkL Put.bulk x ≤ 68719476736) : laws_toPutS u x = some x := by
  have hlen : x.length ≤ 68719476736 := by have := bulkL_len (f := Put.bulk) x; omega
  unfold laws_toPutS
  rw [chk_len, chk_dec (by rw [Int.toNat_natCast]; omega)]
  simp only [Option.bind_some, Int.toNat_natCast]
  rw [laws_toPutS_l2_w u x _ u (by omega) (by omega), wlist_copy0]
  · rfl
  · intro y i s k hx hi
    unfold laws_toPutS_l2_b
    rw [laws_toPut_eq hu (Nat.le_trans (bulkL_mem (f := Put.bulk) hx) h)]
    rw [idx_nat, List.getElem?_eq_getElem hi]; simp
theorem laws_eqPutS_eq {u : Nat} (hu : 1099511627776 ≤ u) {x : List Put} (h : Pu.bulkL Put.bulk x ≤ 68719476736) : laws_eqPutS u x x = some true := by
  have hlen : x.length ≤ 68719476736 := by have := bulkL_len (f := Put.bulk) x; omega
  unfold laws_eqPutS
  simp only [bne_self_eq_false, cond_false]
  rw [laws_eqPutS_l2_w u x x () u (by omega) (by omega), wlist_all (xs := x) _ x 0 (by simp)]
  · rfl
  · intro y i k hx
    unfold laws_eqPutS_l2_b
    rw [idx_nat, hx]
    simp only [Option.bind_some]
    rw [laws_eqPut_eq hu (Nat.le_trans (bulkL_mem (f := Put.bulk) (List.mem_of_getElem? hx)) h)]; simp
def Disk.bulk (x : Disk) : Nat := x.fA.length + (x.fB.length + (Pu.bulkL Put.bulk x.fP))
theorem laws_szDisk_eq {u : Nat} (hu : 1099511627776 ≤ u) {x : Disk} {n : Int} (h0 : 0 ≤ n) (h1 : n ≤ 1048576) (hw : Disk.wf x) : laws_szDisk u x n = some (leftI n (Disk.bulk x)) := by
  unfold laws_szDisk Disk.bulk
  rw [laws_szByteS_eq hu h0 h1 hw.1]
  simp only [Option.bind_some]
  exact left_step (c := x.fB.length + (Pu.bulkL Put.bulk x.fP)) (f := fun r => (laws_szByteS u x.fB r).bind fun r1 => bif decide (r1 < 0) then some (-1) else ((laws_szPutS u x.fP r1).bind fun r2 => bif decide (r2 < 0) then some (-1) else (some r2))) (fun v0 h2v0 h3v0 => by rw [laws_szByteS_eq hu h2v0 (by omega) hw.2.1]; simp only [Option.bind_some]; exact left_step (c := Pu.bulkL Put.bulk x.fP) (f := fun r => (laws_szPutS u x.fP r).bind fun r2 => bif decide (r2 < 0) then some (-1) else (some r2)) (fun v1 h2v1 h3v1 => by rw [laws_szPutS_eq hu h2v1 (by omega) hw.2.2.2.1]; simp only [Option.bind_some]; exact left_last) h2v0) h0
theorem laws_toDisk_eq {u : Nat} (hu : 1099511627776 ≤ u) {x : Disk} (h : Disk.bulk x ≤ 68719476736) : laws_toDisk u x = some x := by
  unfold Disk.bulk at h
  unfold laws_toDisk
  rw [laws_toByteS_eq hu (by omega), laws_toByteS_eq hu (by omega), laws_toRecord_eq u _, laws_toPutS_eq hu (by omega)]; rfl
theorem laws_eqDisk_eq {u : Nat} (hu : 1099511627776 ≤ u) {x : Disk} (h : Disk.bulk x ≤ 68719476736) : laws_eqDisk u x x = some true := by
  unfold Disk.bulk at h
  unfold laws_eqDisk
  simp [laws_eqByteS_eq hu (x := x.fA) (by omega), laws_eqByteS_eq hu (x := x.fB) (by omega), laws_eqRecord_eq, laws_eqPutS_eq hu (x := x.fP) (by omega)]
theorem laws_toSent_eq (u : Nat) (x : Sent) : laws_toSent u x = some x := by
  unfold laws_toSent
  rfl
theorem laws_eqSent_eq (u : Nat) (x : Sent) : laws_eqSent u x x = some true := by
  unfold laws_eqSent
  simp []
def Image.bulk (x : Image) : Nat := x.fB.length
theorem laws_szImage_eq {u : Nat} (hu : 1099511627776 ≤ u) {x : Image} {n : Int} (h0 : 0 ≤ n) (h1 : n ≤ 1048576) (hw : Image.wf x) : laws_szImage u x n = some (leftI n (Image.bulk x)) := by
  unfold laws_szImage Image.bulk
  rw [laws_szByteS_eq hu h0 h1 hw.1]
  simp only [Option.bind_some]
  exact left_last
theorem laws_toImage_eq {u : Nat} (hu : 1099511627776 ≤ u) {x : Image} (h : Image.bulk x ≤ 68719476736) : laws_toImage u x = some x := by
  unfold Image.bulk at h
  unfold laws_toImage
  rw [laws_toByteS_eq hu (by omega)]; rfl
theorem laws_eqImage_eq {u : Nat} (hu : 1099511627776 ≤ u) {x : Image} (h : Image.bulk x ≤ 68719476736) : laws_eqImage u x x = some true := by
  unfold Image.bulk at h
  unfold laws_eqImage
  simp [laws_eqByteS_eq hu (x := x.fB) (by omega)]
theorem laws_szImageS_eq {u : Nat} (hu : 1099511627776 ≤ u) {x : List Image} {n : Int} (h0 : 0 ≤ n) (h1 : n ≤ 1048576) (hw : (wSl Image.wf) x) : laws_szImageS u x n = some (leftI n (bulkL Image.bulk x)) :=
  left_list (c := sumL Image.bulk x) (f := fun r => laws_szImageS_l2 u u x r 0) (fun hm r h2 h3 => by
    rw [laws_szImageS_l2_w u x r u (by omega) (by omega)]
    exact wlist_sz (f := Image.bulk) (fun s => rfl) (fun y i s k hy hs0 hs1 => by unfold laws_szImageS_l2_b; rw [laws_szImage_eq hu hs0 hs1 (hw.2 y hy)]; rfl) x 0 r (fun _ h => h) h2 (by omega)) h0 h1 hw.1
theorem laws_toImageS_eq {u : Nat} (hu : 1099511627776 ≤ u) {x : List Image} (h : Pu.bulkL Image.bulk x ≤ 68719476736) : laws_toImageS u x = some x := by
  have hlen : x.length ≤ 68719476736 := by have := bulkL_len (f := Image.bulk) x; omega
  unfold laws_toImageS
  rw [chk_len, chk_dec (by rw [Int.toNat_natCast]; omega)]
  simp only [Option.bind_some, Int.toNat_natCast]
  rw [laws_toImageS_l2_w u x _ u (by omega) (by omega), wlist_copy0]
  · rfl
  · intro y i s k hx hi
    unfold laws_toImageS_l2_b
    rw [laws_toImage_eq hu (Nat.le_trans (bulkL_mem (f := Image.bulk) hx) h)]
    rw [idx_nat, List.getElem?_eq_getElem hi]; simp
theorem laws_eqImageS_eq {u : Nat} (hu : 1099511627776 ≤ u) {x : List Image} (h : Pu.bulkL Image.bulk x ≤ 68719476736) : laws_eqImageS u x x = some true := by
  have hlen : x.length ≤ 68719476736 := by have := bulkL_len (f := Image.bulk) x; omega
  unfold laws_eqImageS
  simp only [bne_self_eq_false, cond_false]
  rw [laws_eqImageS_l2_w u x x () u (by omega) (by omega), wlist_all (xs := x) _ x 0 (by simp)]
  · rfl
  · intro y i k hx
    unfold laws_eqImageS_l2_b
    rw [idx_nat, hx]
    simp only [Option.bind_some]
    rw [laws_eqImage_eq hu (Nat.le_trans (bulkL_mem (f := Image.bulk) (List.mem_of_getElem? hx)) h)]; simp
theorem laws_szNodeS_eq {u : Nat} (hu : 1099511627776 ≤ u) {x : List Node} {n : Int} (h0 : 0 ≤ n) (h1 : n ≤ 1048576) (hw : (wSl Node.wf) x) : laws_szNodeS u x n = some (leftI n (bulkL Node.bulk x)) :=
  left_list (c := sumL Node.bulk x) (f := fun r => laws_szNodeS_l2 u u x r 0) (fun hm r h2 h3 => by
    rw [laws_szNodeS_l2_w u x r u (by omega) (by omega)]
    exact wlist_sz (f := Node.bulk) (fun s => rfl) (fun y i s k hy hs0 hs1 => by unfold laws_szNodeS_l2_b; rw [laws_szNode_eq hu hs0 hs1 (hw.2 y hy)]; rfl) x 0 r (fun _ h => h) h2 (by omega)) h0 h1 hw.1
theorem laws_toNodeS_eq {u : Nat} (hu : 1099511627776 ≤ u) {x : List Node} (h : Pu.bulkL Node.bulk x ≤ 68719476736) : laws_toNodeS u x = some x := by
  have hlen : x.length ≤ 68719476736 := by have := bulkL_len (f := Node.bulk) x; omega
  unfold laws_toNodeS
  rw [chk_len, chk_dec (by rw [Int.toNat_natCast]; omega)]
  simp only [Option.bind_some, Int.toNat_natCast]
  rw [laws_toNodeS_l2_w u x _ u (by omega) (by omega), wlist_copy0]
  · rfl
  · intro y i s k hx hi
    unfold laws_toNodeS_l2_b
    rw [laws_toNode_eq hu (Nat.le_trans (bulkL_mem (f := Node.bulk) hx) h)]
    rw [idx_nat, List.getElem?_eq_getElem hi]; simp
theorem laws_eqNodeS_eq {u : Nat} (hu : 1099511627776 ≤ u) {x : List Node} (h : Pu.bulkL Node.bulk x ≤ 68719476736) : laws_eqNodeS u x x = some true := by
  have hlen : x.length ≤ 68719476736 := by have := bulkL_len (f := Node.bulk) x; omega
  unfold laws_eqNodeS
  simp only [bne_self_eq_false, cond_false]
  rw [laws_eqNodeS_l2_w u x x () u (by omega) (by omega), wlist_all (xs := x) _ x 0 (by simp)]
  · rfl
  · intro y i k hx
    unfold laws_eqNodeS_l2_b
    rw [idx_nat, hx]
    simp only [Option.bind_some]
    rw [laws_eqNode_eq hu (Nat.le_trans (bulkL_mem (f := Node.bulk) (List.mem_of_getElem? hx)) h)]; simp
theorem laws_szDiskS_eq {u : Nat} (hu : 1099511627776 ≤ u) {x : List Disk} {n : Int} (h0 : 0 ≤ n) (h1 : n ≤ 1048576) (hw : (wSl Disk.wf) x) : laws_szDiskS u x n = some (leftI n (bulkL Disk.bulk x)) :=
  left_list (c := sumL Disk.bulk x) (f := fun r => laws_szDiskS_l2 u u x r 0) (fun hm r h2 h3 => by
    rw [laws_szDiskS_l2_w u x r u (by omega) (by omega)]
    exact wlist_sz (f := Disk.bulk) (fun s => rfl) (fun y i s k hy hs0 hs1 => by unfold laws_szDiskS_l2_b; rw [laws_szDisk_eq hu hs0 hs1 (hw.2 y hy)]; rfl) x 0 r (fun _ h => h) h2 (by omega)) h0 h1 hw.1
theorem laws_toDiskS_eq {u : Nat} (hu : 1099511627776 ≤ u) {x : List Disk} (h : Pu.bulkL Disk.bulk x ≤ 68719476736) : laws_toDiskS u x = some x := by
  have hlen : x.length ≤ 68719476736 := by have := bulkL_len (f := Disk.bulk) x; omega
  unfold laws_toDiskS
  rw [chk_len, chk_dec (by rw [Int.toNat_natCast]; omega)]
  simp only [Option.bind_some, Int.toNat_natCast]
  rw [laws_toDiskS_l2_w u x _ u (by omega) (by omega), wlist_copy0]
  · rfl
  · intro y i s k hx hi
    unfold laws_toDiskS_l2_b
    rw [laws_toDisk_eq hu (Nat.le_trans (bulkL_mem (f := Disk.bulk) hx) h)]
    rw [idx_nat, List.getElem?_eq_getElem hi]; simp
theorem laws_eqDiskS_eq {u : Nat} (hu : 1099511627776 ≤ u) {x : List Disk} (h : Pu.bulkL Disk.bulk x ≤ 68719476736) : laws_eqDiskS u x x = some true := by
  have hlen : x.length ≤ 68719476736 := by have := bulkL_len (f := Disk.bulk) x; omega
  unfold laws_eqDiskS
  simp only [bne_self_eq_false, cond_false]
  rw [laws_eqDiskS_l2_w u x x () u (by omega) (by omega), wlist_all (xs := x) _ x 0 (by simp)]
  · rfl
  · intro y i k hx
    unfold laws_eqDiskS_l2_b
    rw [idx_nat, hx]
    simp only [Option.bind_some]
    rw [laws_eqDisk_eq hu (Nat.le_trans (bulkL_mem (f := Disk.bulk) (List.mem_of_getElem? hx)) h)]; simp
def Packet.bulk (x : Packet) : Nat := x.fB.length
theorem laws_szPacket_eq {u : Nat} (hu : 1099511627776 ≤ u) {x : Packet} {n : Int} (h0 : 0 ≤ n) (h1 : n ≤ 1048576) (hw : Packet.wf x) : laws_szPacket u x n = some (leftI n (Packet.bulk x)) := by
  unfold laws_szPacket Packet.bulk
  rw [laws_szByteS_eq hu h0 h1 hw.2.2.1]
  simp only [Option.bind_some]
  exact left_last
theorem laws_toPacket_eq {u : Nat} (hu : 1099511627776 ≤ u) {x : Packet} (h : Packet.bulk x ≤ 68719476736) : laws_toPacket u x = some x := by
  unfold Packet.bulk at h
  unfold laws_toPacket
  rw [laws_toByteS_eq hu (by omega)]; rfl
theorem laws_eqPacket_eq {u : Nat} (hu : 1099511627776 ≤ u) {x : Packet} (h : Packet.bulk x ≤ 68719476736) : laws_eqPacket u x x = some true := by
  unfold Packet.bulk at h
  unfold laws_eqPacket
  simp [laws_eqByteS_eq hu (x := x.fB) (by omega)]
theorem laws_szPacketS_eq {u : Nat} (hu : 1099511627776 ≤ u) {x : List Packet} {n : Int} (h0 : 0 ≤ n) (h1 : n ≤ 1048576) (hw : (wSl Packet.wf) x) : laws_szPacketS u x n = some (leftI n (bulkL Packet.bulk x)) :=
  left_list (c := sumL Packet.bulk x) (f := fun r => laws_szPacketS_l2 u u x r 0) (fun hm r h2 h3 => by
    rw [laws_szPacketS_l2_w u x r u (by omega) (by omega)]
    exact wlist_sz (f := Packet.bulk) (fun s => rfl) (fun y i s k hy hs0 hs1 => by unfold laws_szPacketS_l2_b; rw [laws_szPacket_eq hu hs0 hs1 (hw.2 y hy)]; rfl) x 0 r (fun _ h => h) h2 (by omega)) h0 h1 hw.1
theorem laws_toPacketS_eq {u : Nat} (hu : 1099511627776 ≤ u) {x : List Packet} (h : Pu.bulkL Packet.bulk x ≤ 68719476736) : laws_toPacketS u x = some x := by
  have hlen : x.length ≤ 68719476736 := by have := bulkL_len (f := Packet.bulk) x; omega
  unfold laws_toPacketS
  rw [chk_len, chk_dec (by rw [Int.toNat_natCast]; omega)]
  simp only [Option.bind_some, Int.toNat_natCast]
  rw [laws_toPacketS_l2_w u x _ u (by omega) (by omega), wlist_copy0]
  · rfl
  · intro y i s k hx hi
    unfold laws_toPacketS_l2_b
    rw [laws_toPacket_eq hu (Nat.le_trans (bulkL_mem (f := Packet.bulk) hx) h)]
    rw [idx_nat, List.getElem?_eq_getElem hi]; simp
theorem laws_eqPacketS_eq {u : Nat} (hu : 1099511627776 ≤ u) {x : List Packet} (h : Pu.bulkL Packet.bulk x ≤ 68719476736) : laws_eqPacketS u x x = some true := by
  have hlen : x.length ≤ 68719476736 := by have := bulkL_len (f := Packet.bulk) x; omega
  unfold laws_eqPacketS
  simp only [bne_self_eq_false, cond_false]
  rw [laws_eqPacketS_l2_w u x x () u (by omega) (by omega), wlist_all (xs := x) _ x 0 (by simp)]
  · rfl
  · intro y i k hx
    unfold laws_eqPacketS_l2_b
    rw [idx_nat, hx]
    simp only [Option.bind_some]
    rw [laws_eqPacket_eq hu (Nat.le_trans (bulkL_mem (f := Packet.bulk) (List.mem_of_getElem? hx)) h)]; simp
theorem laws_szSentS_eq {u : Nat} (hu : 1099511627776 ≤ u) {x : List Sent} {n : Int} (h0 : 0 ≤ n) (h1 : n ≤ 1048576) (hw : (wSl Sent.wf) x) : laws_szSentS u x n = some (leftI n x.length) := left_len h0 h1 hw.1
theorem laws_toSentS_eq {u : Nat} (hu : 1099511627776 ≤ u) {x : List Sent} (h : x.length ≤ 68719476736) : laws_toSentS u x = some x := by
  have hlen : x.length ≤ 68719476736 := by omega
  unfold laws_toSentS
  rw [chk_len, chk_dec (by rw [Int.toNat_natCast]; omega)]
  simp only [Option.bind_some, Int.toNat_natCast]
  rw [laws_toSentS_l2_w u x _ u (by omega) (by omega), wlist_copy0]
  · rfl
  · intro y i s k hx hi
    unfold laws_toSentS_l2_b
    rw [laws_toSent_eq u _]
    rw [idx_nat, List.getElem?_eq_getElem hi]; simp
theorem laws_eqSentS_eq {u : Nat} (hu : 1099511627776 ≤ u) {x : List Sent} (h : x.length ≤ 68719476736) : laws_eqSentS u x x = some true := by
  have hlen : x.length ≤ 68719476736 := by omega
  unfold laws_eqSentS
  simp only [bne_self_eq_false, cond_false]
  rw [laws_eqSentS_l2_w u x x () u (by omega) (by omega), wlist_all (xs := x) _ x 0 (by simp)]
  · rfl
  · intro y i k hx
    unfold laws_eqSentS_l2_b
    rw [idx_nat, hx]
    simp only [Option.bind_some]
    rw [laws_eqSent_eq]; simp
def World.bulk (x : World) : Nat := Tree.bulk x.fT + (x.fNew.length + (Pu.bulkL Image.bulk x.fOld + (Pu.bulkL Node.bulk x.fN + (Pu.bulkL Disk.bulk x.fD + (Pu.bulkL Packet.bulk x.fNet + (x.fLog.length))))))
theorem laws_szWorld_eq {u : Nat} (hu : 1099511627776 ≤ u) {x : World} {n : Int} (h0 : 0 ≤ n) (h1 : n ≤ 1048576) (hw : World.wf x) : laws_szWorld u x n = some (leftI n (World.bulk x)) := by
  unfold laws_szWorld World.bulk
  rw [laws_szTree_eq hu h0 h1 hw.2.1]
  simp only [Option.bind_some]
  exact left_step (c := x.fNew.length + (Pu.bulkL Image.bulk x.fOld + (Pu.bulkL Node.bulk x.fN + (Pu.bulkL Disk.bulk x.fD + (Pu.bulkL Packet.bulk x.fNet + (x.fLog.length)))))) (f := fun r => (laws_szByteS u x.fNew r).bind fun r1 => bif decide (r1 < 0) then some (-1) else ((laws_szImageS u x.fOld r1).bind fun r2 => bif decide (r2 < 0) then some (-1) else ((laws_szNodeS u x.fN r2).bind fun r3 => bif decide (r3 < 0) then some (-1) else ((laws_szDiskS u x.fD r3).bind fun r4 => bif decide (r4 < 0) then some (-1) else ((laws_szPacketS u x.fNet r4).bind fun r5 => bif decide (r5 < 0) then some (-1) else ((laws_szSentS u x.fLog r5).bind fun r6 => bif decide (r6 < 0) then some (-1) else (some r6))))))) (fun v0 h2v0 h3v0 => by rw [laws_szByteS_eq hu h2v0 (by omega) hw.2.2.1]; simp only [Option.bind_some]; exact left_step (c := Pu.bulkL Image.bulk x.fOld + (Pu.bulkL Node.bulk x.fN + (Pu.bulkL Disk.bulk x.fD + (Pu.bulkL Packet.bulk x.fNet + (x.fLog.length))))) (f := fun r => (laws_szImageS u x.fOld r).bind fun r2 => bif decide (r2 < 0) then some (-1) else ((laws_szNodeS u x.fN r2).bind fun r3 => bif decide (r3 < 0) then some (-1) else ((laws_szDiskS u x.fD r3).bind fun r4 => bif decide (r4 < 0) then some (-1) else ((laws_szPacketS u x.fNet r4).bind fun r5 => bif decide (r5 < 0) then some (-1) else ((laws_szSentS u x.fLog r5).bind fun r6 => bif decide (r6 < 0) then some (-1) else (some r6)))))) (fun v1 h2v1 h3v1 => by rw [laws_szImageS_eq hu h2v1 (by omega) hw.2.2.2.1]; simp only [Option.bind_some]; exact left_step (c := Pu.bulkL Node.bulk x.fN + (Pu.bulkL Disk.bulk x.fD + (Pu.bulkL Packet.bulk x.fNet + (x.fLog.length)))) (f := fun r => (laws_szNodeS u x.fN r).bind fun r3 => bif decide (r3 < 0) then some (-1) else ((laws_szDiskS u x.fD r3).bind fun r4 => bif decide (r4 < 0) then some (-1) else ((laws_szPacketS u x.fNet r4).bind fun r5 => bif decide (r5 < 0) then some (-1) else ((laws_szSentS u x.fLog r5).bind fun r6 => bif decide (r6 < 0) then some (-1) else (some r6))))) (fun v2 h2v2 h3v2 => by rw [laws_szNodeS_eq hu h2v2 (by omega) hw.2.2.2.2.1]; simp only [Option.bind_some]; exact left_step (c := Pu.bulkL Disk.bulk x.fD + (Pu.bulkL Packet.bulk x.fNet + (x.fLog.length))) (f := fun r => (laws_szDiskS u x.fD r).bind fun r4 => bif decide (r4 < 0) then some (-1) else ((laws_szPacketS u x.fNet r4).bind fun r5 => bif decide (r5 < 0) then some (-1) else ((laws_szSentS u x.fLog r5).bind fun r6 => bif decide (r6 < 0) then some (-1) else (some r6)))) (fun v3 h2v3 h3v3 => by rw [laws_szDiskS_eq hu h2v3 (by omega) hw.2.2.2.2.2.1]; simp only [Option.bind_some]; exact left_step (c := Pu.bulkL Packet.bulk x.fNet + (x.fLog.length)) (f := fun r => (laws_szPacketS u x.fNet r).bind fun r5 => bif decide (r5 < 0) then some (-1) else ((laws_szSentS u x.fLog r5).bind fun r6 => bif decide (r6 < 0) then some (-1) else (some r6))) (fun v4 h2v4 h3v4 => by rw [laws_szPacketS_eq hu h2v4 (by omega) hw.2.2.2.2.2.2.1]; simp only [Option.bind_some]; exact left_step (c := x.fLog.length) (f := fun r => (laws_szSentS u x.fLog r).bind fun r6 => bif decide (r6 < 0) then some (-1) else (some r6)) (fun v5 h2v5 h3v5 => by rw [laws_szSentS_eq hu h2v5 (by omega) hw.2.2.2.2.2.2.2.1]; simp only [Option.bind_some]; exact left_last) h2v4) h2v3) h2v2) h2v1) h2v0) h0
theorem laws_toWorld_eq {u : Nat} (hu : 1099511627776 ≤ u) {x : World} (h : World.bulk x ≤ 68719476736) : laws_toWorld u x = some x := by
  unfold World.bulk at h
  unfold laws_toWorld
  rw [laws_toConf_eq u _, laws_toTree_eq hu (by omega), laws_toByteS_eq hu (by omega), laws_toImageS_eq hu (by omega), laws_toNodeS_eq hu (by omega), laws_toDiskS_eq hu (by omega), laws_toPacketS_eq hu (by omega), laws_toSentS_eq hu (by omega)]; rfl
theorem laws_eqWorld_eq {u : Nat} (hu : 1099511627776 ≤ u) {x : World} (h : World.bulk x ≤ 68719476736) : laws_eqWorld u x x = some true := by
  unfold World.bulk at h
  unfold laws_eqWorld
  simp [laws_eqConf_eq, laws_eqTree_eq hu (x := x.fT) (by omega), laws_eqByteS_eq hu (x := x.fNew) (by omega), laws_eqImageS_eq hu (x := x.fOld) (by omega), laws_eqNodeS_eq hu (x := x.fN) (by omega), laws_eqDiskS_eq hu (x := x.fD) (by omega), laws_eqPacketS_eq hu (x := x.fNet) (by omega), laws_eqSentS_eq hu (x := x.fLog) (by omega)]
def M.isBytes (b : List Int) : Prop := ∀ x ∈ b, 0 ≤ x ∧ x ≤ 255
theorem ne_beq (a b : Int) : (a != b) = !(a == b) := rfl
theorem sum_beq (x y : Sum) : (([x.fW, x.fS] : List Int) == [y.fW, y.fS]) = decide (x = y) := by
  obtain ⟨a, b⟩ := x
  obtain ⟨c, d⟩ := y
  rw [Bool.eq_iff_iff]; simp
theorem bytes_wf {b : List Int} (h : wSl (wInt .u8) b) : M.isBytes b := fun x hx => h.2 x hx
def M.imgsOk (old : List Image) : Prop := ∀ x ∈ old, M.isBytes x.fB ∧ x.fB.length ≤ 1048576
theorem imgs_wf {l : List Image} (h : wSl Image.wf l) (hb : bulkL Image.bulk l ≤ 1048576) : M.imgsOk l := fun x hx => by
  have h1 : x.fB.length ≤ bulkL Image.bulk l := bulkL_mem (f := Image.bulk) hx
  exact ⟨bytes_wf (h.2 x hx).1, by omega⟩
theorem int_beq (x y : Int) : (x == y) = decide (x = y) := by rw [Bool.eq_iff_iff]; simp
theorem cond_some (b : Bool) : (bif b then some true else some false) = some b := by cases b <;> rfl
def M.all2 {α : Type} (f : α → α → Bool) : List α → List α → Bool
  | x :: xs, y :: ys => f x y && M.all2 f xs ys
  | _, _ => true
def M.same {α : Type} (f : α → α → Bool) (xs ys : List α) : Bool := (xs.length == ys.length) && M.all2 f xs ys
theorem wlist_all2 {α : Type} {fin : Unit → Option Bool} {body : α → Nat → Unit → (Unit → Option Bool) → Option Bool} (f : α → α → Bool) {xs ys : List α} (h : xs.length = ys.length) (hb : ∀ x y i k, xs[i]? = some x → ys[i]? = some y → body x i () k = bif f x y then k () else some false) :
    wlist fin body xs 0 () = bif M.all2 f xs ys then fin () else some false := by
  have : ∀ (l m : List α) (i : Nat), l = xs.drop i → m = ys.drop i → wlist fin body l i () = bif M.all2 f l m then fin () else some false := by
    intro l
    induction l with
    | nil => intro m i _ _; simp [wlist, M.all2]
    | cons x l ih =>
      intro m i h1 h2
      have hlt : i < xs.length := by have := congrArg List.length h1; simp at this; omega
      cases m with
      | nil => have := congrArg List.length h2; simp at this; omega
      | cons y m =>
        have hx : xs[i]? = some x := by have := congrArg List.head? h1; simpa [List.head?_drop] using this.symm
        have hy : ys[i]? = some y := by have := congrArg List.head? h2; simpa [List.head?_drop] using this.symm
        have hl : l = xs.drop (i + 1) := by have := congrArg List.tail h1; simpa [List.tail_drop] using this
        have hm : m = ys.drop (i + 1) := by have := congrArg List.tail h2; simpa [List.tail_drop] using this
        simp only [wlist, M.all2]
        rw [hb x y i _ hx hy, ih m (i + 1) hl hm]
        cases f x y <;> simp
  exact this xs ys 0 (by simp) (by simp)
def M.sameBytes (a b : List Int) : Bool := (strOfNums a).toList == (strOfNums b).toList
theorem spec_SameBytes_eq (u : Nat) (a b : List Int) : spec_SameBytes u a b = some (M.sameBytes a b) := rfl
theorem impl_SameBytes_eq (u : Nat) (a b : List Int) : impl_SameBytes u a b = some (M.sameBytes a b) := rfl
theorem kid_beq (x y : Kid) : (([x.fId, x.fWant, x.fDone, x.fAge, x.fSent] : List Int) == [y.fId, y.fWant, y.fDone, y.fAge, y.fSent]) = decide (x = y) := by
  obtain ⟨a0, a1, a2, a3, a4⟩ := x
  obtain ⟨b0, b1, b2, b3, b4⟩ := y
  rw [Bool.eq_iff_iff]; simp
theorem sent_beq (x y : Sent) : (([x.fFrom, x.fTo, x.fI] : List Int) == [y.fFrom, y.fTo, y.fI]) = decide (x = y) := by
  obtain ⟨a0, a1, a2⟩ := x
  obtain ⟨b0, b1, b2⟩ := y
  rw [Bool.eq_iff_iff]; simp
theorem record_beq (x y : Record) : (([x.fGen, x.fSlot, x.fLen] : List Int) == [y.fGen, y.fSlot, y.fLen]) = decide (x = y) := by
  obtain ⟨a0, a1, a2⟩ := x
  obtain ⟨b0, b1, b2⟩ := y
  rw [Bool.eq_iff_iff]; simp
theorem conf_beq (x y : Conf) : (([x.fSize, x.fWindow, x.fSuspect, x.fForget] : List Int) == [y.fSize, y.fWindow, y.fSuspect, y.fForget]) = decide (x = y) := by
  obtain ⟨a0, a1, a2, a3⟩ := x
  obtain ⟨b0, b1, b2, b3⟩ := y
  rw [Bool.eq_iff_iff]; simp
theorem slices_Equal___int_int_eq {u : Nat} (hu : 1099511627776 ≤ u) {a b : List Int} (ha : a.length ≤ 1048576) : slices_Equal___int_int u a b = some (M.same (fun x y => decide (x = y)) a b) := by
  unfold slices_Equal___int_int M.same
  by_cases h : a.length = b.length
  · have h1 : ((a.length : Int) != (b.length : Int)) = false := by simp [h]
    simp only [h1, cond_false]
    rw [slices_Equal___int_int_l2_w u a b () u (by omega) (by omega), wlist_all2 (fun x y => decide (x = y)) h (fun x y i k hx hy => by unfold slices_Equal___int_int_l2_b; rw [idx_nat, hy]; simp only [Option.bind_some, ne_beq, int_beq]; cases decide (x = y) <;> rfl)]
    simp only [h, beq_self_eq_true, Bool.true_and]
    exact cond_some _
  · have h1 : ((a.length : Int) != (b.length : Int)) = true := by simp; omega
    have h2 : (a.length == b.length) = false := by simpa using h
    simp [h1, h2]
theorem slices_Equal___impl_Sum_impl_Sum_eq {u : Nat} (hu : 1099511627776 ≤ u) {a b : List Sum} (ha : a.length ≤ 1048576) : slices_Equal___impl_Sum_impl_Sum u a b = some (M.same (fun x y => decide (x = y)) a b) := by
  unfold slices_Equal___impl_Sum_impl_Sum M.same
  by_cases h : a.length = b.length
  · have h1 : ((a.length : Int) != (b.length : Int)) = false := by simp [h]
    simp only [h1, cond_false]
    rw [slices_Equal___impl_Sum_impl_Sum_l2_w u a b () u (by omega) (by omega), wlist_all2 (fun x y => decide (x = y)) h (fun x y i k hx hy => by unfold slices_Equal___impl_Sum_impl_Sum_l2_b; rw [idx_nat, hy]; simp only [Option.bind_some, sum_beq]; cases decide (x = y) <;> rfl)]
    simp only [h, beq_self_eq_true, Bool.true_and]
    exact cond_some _
  · have h1 : ((a.length : Int) != (b.length : Int)) = true := by simp; omega
    have h2 : (a.length == b.length) = false := by simpa using h
    simp [h1, h2]
theorem slices_Equal___impl_Kid_impl_Kid_eq {u : Nat} (hu : 1099511627776 ≤ u) {a b : List Kid} (ha : a.length ≤ 1048576) : slices_Equal___impl_Kid_impl_Kid u a b = some (M.same (fun x y => decide (x = y)) a b) := by
  unfold slices_Equal___impl_Kid_impl_Kid M.same
  by_cases h : a.length = b.length
  · have h1 : ((a.length : Int) != (b.length : Int)) = false := by simp [h]
    simp only [h1, cond_false]
    rw [slices_Equal___impl_Kid_impl_Kid_l2_w u a b () u (by omega) (by omega), wlist_all2 (fun x y => decide (x = y)) h (fun x y i k hx hy => by unfold slices_Equal___impl_Kid_impl_Kid_l2_b; rw [idx_nat, hy]; simp only [Option.bind_some, kid_beq]; cases decide (x = y) <;> rfl)]
    simp only [h, beq_self_eq_true, Bool.true_and]
    exact cond_some _
  · have h1 : ((a.length : Int) != (b.length : Int)) = true := by simp; omega
    have h2 : (a.length == b.length) = false := by simpa using h
    simp [h1, h2]
theorem slices_Equal___impl_Sent_impl_Sent_eq {u : Nat} (hu : 1099511627776 ≤ u) {a b : List Sent} (ha : a.length ≤ 1048576) : slices_Equal___impl_Sent_impl_Sent u a b = some (M.same (fun x y => decide (x = y)) a b) := by
  unfold slices_Equal___impl_Sent_impl_Sent M.same
  by_cases h : a.length = b.length
  · have h1 : ((a.length : Int) != (b.length : Int)) = false := by simp [h]
    simp only [h1, cond_false]
    rw [slices_Equal___impl_Sent_impl_Sent_l2_w u a b () u (by omega) (by omega), wlist_all2 (fun x y => decide (x = y)) h (fun x y i k hx hy => by unfold slices_Equal___impl_Sent_impl_Sent_l2_b; rw [idx_nat, hy]; simp only [Option.bind_some, sent_beq]; cases decide (x = y) <;> rfl)]
    simp only [h, beq_self_eq_true, Bool.true_and]
    exact cond_some _
  · have h1 : ((a.length : Int) != (b.length : Int)) = true := by simp; omega
    have h2 : (a.length == b.length) = false := by simpa using h
    simp [h1, h2]
theorem spec_l6SameSums_eq {u : Nat} (hu : 1099511627776 ≤ u) {a b : List Sum} (ha : a.length ≤ 1048576) : spec_l6SameSums u a b = some (M.same (fun x y => decide (x = y)) a b) := by
  unfold spec_l6SameSums M.same
  by_cases h : a.length = b.length
  · have h1 : ((a.length : Int) != (b.length : Int)) = false := by simp [h]
    simp only [h1, cond_false]
    rw [spec_l6SameSums_l2_w u a b () u (by omega) (by omega), wlist_all2 (fun x y => decide (x = y)) h (fun x y i k hx hy => by unfold spec_l6SameSums_l2_b; rw [idx_nat, hy]; simp only [Option.bind_some, sum_beq]; cases decide (x = y) <;> rfl)]
    simp only [h, beq_self_eq_true, Bool.true_and]
    exact cond_some _
  · have h1 : ((a.length : Int) != (b.length : Int)) = true := by simp; omega
    have h2 : (a.length == b.length) = false := by simpa using h
    simp [h1, h2]
def M.sameMan (a b : Manifest) : Bool := (a.fGen == b.fGen) && (a.fSize == b.fSize) && (a.fLen == b.fLen) && M.same (fun x y => decide (x = y)) a.fSums b.fSums
theorem impl_SameMan_eq {u : Nat} (hu : 1099511627776 ≤ u) {a b : Manifest} (ha : a.fSums.length ≤ 1048576) : impl_SameMan u a b = some (M.sameMan a b) := by
  unfold impl_SameMan M.sameMan
  rw [slices_Equal___impl_Sum_impl_Sum_eq hu ha]
  cases a.fGen == b.fGen <;> cases a.fSize == b.fSize <;> cases a.fLen == b.fLen <;> simp
theorem spec_SameMan_eq {u : Nat} (hu : 1099511627776 ≤ u) {a b : Manifest} (ha : a.fSums.length ≤ 1048576) : spec_SameMan u a b = some (M.sameMan a b) := by
  unfold spec_SameMan M.sameMan
  rw [spec_l6SameSums_eq hu ha]
  cases a.fGen == b.fGen <;> cases a.fSize == b.fSize <;> cases a.fLen == b.fLen <;> simp
def M.sameNode (a b : Node) : Bool := (a.fOn == b.fOn) && (a.fBoss == b.fBoss) && (a.fQuiet == b.fQuiet) && M.sameMan a.fMan b.fMan && (a.fBld.fHave == b.fBld.fHave) && M.sameBytes a.fBld.fBuf b.fBld.fBuf && (a.fPhase == b.fPhase) && M.same (fun x y => decide (x = y)) a.fKids b.fKids && (a.fDrops == b.fDrops)
theorem impl_SameNode_eq {u : Nat} (hu : 1099511627776 ≤ u) {a b : Node} (ha : a.fMan.fSums.length ≤ 1048576) (hk : a.fKids.length ≤ 1048576) : impl_SameNode u a b = some (M.sameNode a b) := by
  unfold impl_SameNode M.sameNode
  rw [impl_SameMan_eq hu ha, impl_SameBytes_eq, slices_Equal___impl_Kid_impl_Kid_eq hu hk]
  simp only [Option.bind_some]
  cases a.fOn == b.fOn <;> cases a.fBoss == b.fBoss <;> cases a.fQuiet == b.fQuiet <;> cases M.sameMan a.fMan b.fMan <;> cases a.fBld.fHave == b.fBld.fHave <;> cases M.sameBytes a.fBld.fBuf b.fBld.fBuf <;> cases a.fPhase == b.fPhase <;> cases M.same (fun x y => decide (x = y)) a.fKids b.fKids <;> rfl
theorem spec_SameNode_eq {u : Nat} (hu : 1099511627776 ≤ u) {a b : Node} (ha : a.fMan.fSums.length ≤ 1048576) (hk : a.fKids.length ≤ 1048576) : spec_SameNode u a b = some (M.sameNode a b) := by
  unfold spec_SameNode spec_SameNode_j1
  rw [spec_SameMan_eq hu ha, spec_SameBytes_eq]
  simp only [Option.bind_some, ne_beq, cond_true]
  have e : a.fKids.length = b.fKids.length → spec_SameNode_l3 u u 0 a b = some (M.all2 (fun x y => decide (x = y)) a.fKids b.fKids) := fun h => by
    rw [spec_SameNode_l3_w u a b () u (by omega) (by omega), wlist_all2 (fun x y => decide (x = y)) h (fun x y i k hx hy => by unfold spec_SameNode_l3_b; rw [idx_nat, hy]; simp only [Option.bind_some, kid_beq]; cases decide (x = y) <;> rfl)]
    exact cond_some _
  unfold M.sameNode M.same
  by_cases h : a.fKids.length = b.fKids.length
  · have h1 : ((a.fKids.length : Int) == (b.fKids.length : Int)) = true := by simp [h]
    have h2 : (a.fKids.length == b.fKids.length) = true := by simpa using h
    simp only [e h, h1, h2]
    cases a.fOn == b.fOn <;> cases a.fBoss == b.fBoss <;> cases a.fQuiet == b.fQuiet <;> cases M.sameMan a.fMan b.fMan <;> cases a.fBld.fHave == b.fBld.fHave <;> cases M.sameBytes a.fBld.fBuf b.fBld.fBuf <;> cases a.fPhase == b.fPhase <;> cases a.fDrops == b.fDrops <;> simp
  · have h1 : ((a.fKids.length : Int) == (b.fKids.length : Int)) = false := by simp; omega
    have h2 : (a.fKids.length == b.fKids.length) = false := by simpa using h
    simp only [h1, h2]
    cases a.fOn == b.fOn <;> cases a.fBoss == b.fBoss <;> cases a.fQuiet == b.fQuiet <;> cases M.sameMan a.fMan b.fMan <;> cases a.fBld.fHave == b.fBld.fHave <;> cases M.sameBytes a.fBld.fBuf b.fBld.fBuf <;> cases a.fPhase == b.fPhase <;> simp
def M.samePut (a b : Put) : Bool := (a.fWhat == b.fWhat) && (a.fAt == b.fAt) && M.sameBytes a.fB b.fB && decide (a.fR = b.fR)
theorem impl_sameDisk_1_eq (u : Nat) (a b : Put) : impl_sameDisk_1 u a b = some (M.samePut a b) := by
  unfold impl_sameDisk_1 M.samePut
  rw [impl_SameBytes_eq, record_beq]
  simp only [Option.bind_some]
  cases a.fWhat == b.fWhat <;> cases a.fAt == b.fAt <;> cases M.sameBytes a.fB b.fB <;> rfl
theorem slices_EqualFunc___impl_Put___impl_Put_impl_Put_impl_Put__impl_sameDisk_1_eq {u : Nat} (hu : 1099511627776 ≤ u) {a b : List Put} (ha : a.length ≤ 1048576) : slices_EqualFunc___impl_Put___impl_Put_impl_Put_impl_Put__impl_sameDisk_1 u a b = some (M.same M.samePut a b) := by
  unfold slices_EqualFunc___impl_Put___impl_Put_impl_Put_impl_Put__impl_sameDisk_1 M.same
  by_cases h : a.length = b.length
  · have h1 : ((a.length : Int) != (b.length : Int)) = false := by simp [h]
    simp only [h1, cond_false]
    rw [slices_EqualFunc___impl_Put___impl_Put_impl_Put_impl_Put__impl_sameDisk_1_l2_w u b a () u (by omega) (by omega), wlist_all2 M.samePut h (fun x y i k hx hy => by unfold slices_EqualFunc___impl_Put___impl_Put_impl_Put_impl_Put__impl_sameDisk_1_l2_b; rw [idx_nat, hy]; simp only [Option.bind_some]; rw [impl_sameDisk_1_eq]; simp only [Option.bind_some]; generalize hg : M.samePut x y = z; cases z <;> rfl)]
    simp only [h, beq_self_eq_true, Bool.true_and]
    exact cond_some _
  · have h1 : ((a.length : Int) != (b.length : Int)) = true := by simp; omega
    have h2 : (a.length == b.length) = false := by simpa using h
    simp [h1, h2]
def M.sameDisk (a b : Disk) : Bool := M.sameBytes a.fA b.fA && M.sameBytes a.fB b.fB && decide (a.fR = b.fR) && M.same M.samePut a.fP b.fP
theorem impl_sameDisk_eq {u : Nat} (hu : 1099511627776 ≤ u) {a b : Disk} (ha : a.fP.length ≤ 1048576) : impl_sameDisk u a b = some (M.sameDisk a b) := by
  unfold impl_sameDisk M.sameDisk
  rw [impl_SameBytes_eq, impl_SameBytes_eq, record_beq, slices_EqualFunc___impl_Put___impl_Put_impl_Put_impl_Put__impl_sameDisk_1_eq hu ha]
  simp only [Option.bind_some]
  cases M.sameBytes a.fA b.fA <;> cases M.sameBytes a.fB b.fB <;> cases decide (a.fR = b.fR) <;> rfl
theorem spec_l29SameDisk_eq {u : Nat} (hu : 1099511627776 ≤ u) {a b : Disk} (ha : a.fP.length ≤ 1048576) : spec_l29SameDisk u a b = some (M.sameDisk a b) := by
  unfold spec_l29SameDisk spec_l29SameDisk_j1
  rw [spec_SameBytes_eq, spec_SameBytes_eq, record_beq]
  simp only [Option.bind_some, ne_beq, cond_true]
  have e : a.fP.length = b.fP.length → spec_l29SameDisk_l3 u u 0 a b = some (M.all2 M.samePut a.fP b.fP) := fun h => by
    rw [spec_l29SameDisk_l3_w u a b () u (by omega) (by omega), wlist_all2 M.samePut h (fun x y i k hx hy => by
      unfold spec_l29SameDisk_l3_b spec_l29SameDisk_j4 M.samePut
      rw [idx_nat, hy]
      simp only [Option.bind_some, record_beq, spec_SameBytes_eq, ne_beq]
      cases x.fWhat == y.fWhat <;> cases x.fAt == y.fAt <;> cases decide (x.fR = y.fR) <;> cases M.sameBytes x.fB y.fB <;> rfl)]
    exact cond_some _
  unfold M.sameDisk M.same
  by_cases h : a.fP.length = b.fP.length
  · have h1 : ((a.fP.length : Int) == (b.fP.length : Int)) = true := by simp [h]
    have h2 : (a.fP.length == b.fP.length) = true := by simpa using h
    simp only [e h, h1, h2]
    cases M.sameBytes a.fA b.fA <;> cases M.sameBytes a.fB b.fB <;> cases decide (a.fR = b.fR) <;> rfl
  · have h1 : ((a.fP.length : Int) == (b.fP.length : Int)) = false := by simp; omega
    have h2 : (a.fP.length == b.fP.length) = false := by simpa using h
    simp only [h1, h2]
    cases M.sameBytes a.fA b.fA <;> cases M.sameBytes a.fB b.fB <;> cases decide (a.fR = b.fR) <;> rfl
def M.samePacket (a b : Packet) : Bool := (a.fFrom == b.fFrom) && (a.fTo == b.fTo) && M.sameBytes a.fB b.fB
theorem impl_samePacket_eq (u : Nat) (a b : Packet) : impl_samePacket u a b = some (M.samePacket a b) := by
  unfold impl_samePacket M.samePacket
  rw [impl_SameBytes_eq]
  simp only [Option.bind_some]
  cases a.fFrom == b.fFrom <;> cases a.fTo == b.fTo <;> rfl
theorem slices_EqualFunc___impl_Packet___impl_Packet_impl_Packet_impl_Packet__impl_samePacket_eq {u : Nat} (hu : 1099511627776 ≤ u) {a b : List Packet} (ha : a.length ≤ 1048576) : slices_EqualFunc___impl_Packet___impl_Packet_impl_Packet_impl_Packet__impl_samePacket u a b = some (M.same M.samePacket a b) := by
  unfold slices_EqualFunc___impl_Packet___impl_Packet_impl_Packet_impl_Packet__impl_samePacket M.same
  by_cases h : a.length = b.length
  · have h1 : ((a.length : Int) != (b.length : Int)) = false := by simp [h]
    simp only [h1, cond_false]
    rw [slices_EqualFunc___impl_Packet___impl_Packet_impl_Packet_impl_Packet__impl_samePacket_l2_w u b a () u (by omega) (by omega), wlist_all2 M.samePacket h (fun x y i k hx hy => by unfold slices_EqualFunc___impl_Packet___impl_Packet_impl_Packet_impl_Packet__impl_samePacket_l2_b; rw [idx_nat, hy]; simp only [Option.bind_some]; rw [impl_samePacket_eq]; simp only [Option.bind_some]; generalize hg : M.samePacket x y = z; cases z <;> rfl)]
    simp only [h, beq_self_eq_true, Bool.true_and]
    exact cond_some _
  · have h1 : ((a.length : Int) != (b.length : Int)) = true := by simp; omega
    have h2 : (a.length == b.length) = false := by simpa using h
    simp [h1, h2]
theorem impl_SamePackets_eq {u : Nat} (hu : 1099511627776 ≤ u) {a b : List Packet} (ha : a.length ≤ 1048576) : impl_SamePackets u a b = some (M.same M.samePacket a b) := by
  unfold impl_SamePackets
  rw [slices_EqualFunc___impl_Packet___impl_Packet_impl_Packet_impl_Packet__impl_samePacket_eq hu ha]; rfl
theorem spec_SamePackets_eq {u : Nat} (hu : 1099511627776 ≤ u) {a b : List Packet} (ha : a.length ≤ 1048576) : spec_SamePackets u a b = some (M.same M.samePacket a b) := by
  unfold spec_SamePackets M.same
  by_cases h : a.length = b.length
  · have h1 : ((a.length : Int) != (b.length : Int)) = false := by simp [h]
    simp only [h1, cond_false]
    rw [spec_SamePackets_l2_w u a b () u (by omega) (by omega), wlist_all2 M.samePacket h (fun x y i k hx hy => by
      unfold spec_SamePackets_l2_b spec_SamePackets_j3 M.samePacket
      rw [idx_nat, hy, idx_nat, hx]
      simp only [Option.bind_some, spec_SameBytes_eq, ne_beq]
      cases x.fFrom == y.fFrom <;> cases x.fTo == y.fTo <;> cases M.sameBytes x.fB y.fB <;> rfl)]
    simp only [h, beq_self_eq_true, Bool.true_and]
    exact cond_some _
  · have h1 : ((a.length : Int) != (b.length : Int)) = true := by simp; omega
    have h2 : (a.length == b.length) = false := by simpa using h
    simp [h1, h2]
def M.butDrops (a b : Node) : Bool := M.sameNode ⟨a.fOn, a.fBoss, a.fQuiet, a.fMan, a.fBld, a.fPhase, a.fKids, b.fDrops⟩ b
def M.nodesOk (l : List Node) : Prop := ∀ x ∈ l, x.fMan.fSums.length ≤ 1048576 ∧ x.fKids.length ≤ 1048576
def M.disksOk (l : List Disk) : Prop := ∀ x ∈ l, x.fP.length ≤ 1048576
theorem impl_SameBut_1_eq {u : Nat} (hu : 1099511627776 ≤ u) {a b : Node} (ha : a.fMan.fSums.length ≤ 1048576) (hk : a.fKids.length ≤ 1048576) : impl_SameBut_1 u a b = some (M.butDrops a b) := by
  unfold impl_SameBut_1
  rw [impl_SameNode_eq hu (a := ⟨a.fOn, a.fBoss, a.fQuiet, a.fMan, a.fBld, a.fPhase, a.fKids, b.fDrops⟩) ha hk]; rfl
theorem impl_SameBut_2_eq (u : Nat) (a b : Image) : impl_SameBut_2 u a b = some (M.sameBytes a.fB b.fB) := rfl
theorem slices_EqualFunc___impl_Image___impl_Image_impl_Image_impl_Image__impl_SameBut_2_eq {u : Nat} (hu : 1099511627776 ≤ u) {a b : List Image} (ha : a.length ≤ 1048576) : slices_EqualFunc___impl_Image___impl_Image_impl_Image_impl_Image__impl_SameBut_2 u a b = some (M.same (fun x y => M.sameBytes x.fB y.fB) a b) := by
  unfold slices_EqualFunc___impl_Image___impl_Image_impl_Image_impl_Image__impl_SameBut_2 M.same
  by_cases h : a.length = b.length
  · have h1 : ((a.length : Int) != (b.length : Int)) = false := by simp [h]
    simp only [h1, cond_false]
    rw [slices_EqualFunc___impl_Image___impl_Image_impl_Image_impl_Image__impl_SameBut_2_l2_w u b a () u (by omega) (by omega), wlist_all2 (fun x y => M.sameBytes x.fB y.fB) h (fun x y i k hx hy => by unfold slices_EqualFunc___impl_Image___impl_Image_impl_Image_impl_Image__impl_SameBut_2_l2_b; rw [idx_nat, hy]; simp only [Option.bind_some]; rw [impl_SameBut_2_eq]; simp only [Option.bind_some]; generalize hg : (fun x y => M.sameBytes x.fB y.fB) x y = z; dsimp only at hg; rw [hg]; cases z <;> rfl)]
    simp only [h, beq_self_eq_true, Bool.true_and]
    exact cond_some _
  · have h1 : ((a.length : Int) != (b.length : Int)) = true := by simp; omega
    have h2 : (a.length == b.length) = false := by simpa using h
    simp [h1, h2]
theorem slices_EqualFunc___impl_Node___impl_Node_impl_Node_impl_Node__impl_SameBut_1_eq {u : Nat} (hu : 1099511627776 ≤ u) {a b : List Node} (ha : a.length ≤ 1048576) (hn : M.nodesOk a) : slices_EqualFunc___impl_Node___impl_Node_impl_Node_impl_Node__impl_SameBut_1 u a b = some (M.same M.butDrops a b) := by
  unfold slices_EqualFunc___impl_Node___impl_Node_impl_Node_impl_Node__impl_SameBut_1 M.same
  by_cases h : a.length = b.length
  · have h1 : ((a.length : Int) != (b.length : Int)) = false := by simp [h]
    simp only [h1, cond_false]
    rw [slices_EqualFunc___impl_Node___impl_Node_impl_Node_impl_Node__impl_SameBut_1_l2_w u b a () u (by omega) (by omega), wlist_all2 M.butDrops h (fun x y i k hx hy => by unfold slices_EqualFunc___impl_Node___impl_Node_impl_Node_impl_Node__impl_SameBut_1_l2_b; rw [idx_nat, hy]; simp only [Option.bind_some]; rw [impl_SameBut_1_eq hu (hn x (List.mem_of_getElem? hx)).1 (hn x (List.mem_of_getElem? hx)).2]; simp only [Option.bind_some]; generalize hg : M.butDrops x y = z; cases z <;> rfl)]
    simp only [h, beq_self_eq_true, Bool.true_and]
    exact cond_some _
  · have h1 : ((a.length : Int) != (b.length : Int)) = true := by simp; omega
    have h2 : (a.length == b.length) = false := by simpa using h
    simp [h1, h2]
theorem slices_EqualFunc___impl_Disk___impl_Disk_impl_Disk_impl_Disk__impl_sameDisk_eq {u : Nat} (hu : 1099511627776 ≤ u) {a b : List Disk} (ha : a.length ≤ 1048576) (hn : M.disksOk a) : slices_EqualFunc___impl_Disk___impl_Disk_impl_Disk_impl_Disk__impl_sameDisk u a b = some (M.same M.sameDisk a b) := by
  unfold slices_EqualFunc___impl_Disk___impl_Disk_impl_Disk_impl_Disk__impl_sameDisk M.same
  by_cases h : a.length = b.length
  · have h1 : ((a.length : Int) != (b.length : Int)) = false := by simp [h]
    simp only [h1, cond_false]
    rw [slices_EqualFunc___impl_Disk___impl_Disk_impl_Disk_impl_Disk__impl_sameDisk_l2_w u b a () u (by omega) (by omega), wlist_all2 M.sameDisk h (fun x y i k hx hy => by unfold slices_EqualFunc___impl_Disk___impl_Disk_impl_Disk_impl_Disk__impl_sameDisk_l2_b; rw [idx_nat, hy]; simp only [Option.bind_some]; rw [impl_sameDisk_eq hu (hn x (List.mem_of_getElem? hx))]; simp only [Option.bind_some]; generalize hg : M.sameDisk x y = z; cases z <;> rfl)]
    simp only [h, beq_self_eq_true, Bool.true_and]
    exact cond_some _
  · have h1 : ((a.length : Int) != (b.length : Int)) = true := by simp; omega
    have h2 : (a.length == b.length) = false := by simpa using h
    simp [h1, h2]
def M.sameBut (a b : World) : Bool := decide (a.fC = b.fC) && M.same (fun x y => decide (x = y)) a.fT.fUp b.fT.fUp && M.sameBytes a.fNew b.fNew && M.same (fun x y => M.sameBytes x.fB y.fB) a.fOld b.fOld && M.same M.butDrops a.fN b.fN && M.same M.sameDisk a.fD b.fD && M.same M.samePacket a.fNet b.fNet && M.same (fun x y => decide (x = y)) a.fLog b.fLog
structure M.WorldOk (w : World) : Prop where
  up : w.fT.fUp.length ≤ 1048576
  new : w.fNew.length ≤ 1048576
  old : w.fOld.length ≤ 1048576
  oldB : M.imgsOk w.fOld
  n : w.fN.length ≤ 1048576
  nodes : M.nodesOk w.fN
  d : w.fD.length ≤ 1048576
  disks : M.disksOk w.fD
  net : w.fNet.length ≤ 1048576
  log : w.fLog.length ≤ 1048576
theorem worldOk {w : World} (hw : World.wf w) (hb : World.bulk w ≤ 1048576) : M.WorldOk w := by
  have h0 := hb
  unfold World.bulk at h0
  have h1 := bulkL_len (f := Image.bulk) w.fOld
  have h2 := bulkL_len (f := Node.bulk) w.fN
  have h3 := bulkL_len (f := Disk.bulk) w.fD
  have h4 := bulkL_len (f := Packet.bulk) w.fNet
  obtain ⟨_, _, _, h5, _⟩ := hw
  have e1 : Tree.bulk w.fT = w.fT.fUp.length := rfl
  refine ⟨by omega, by omega, by omega, imgs_wf h5 (by omega), by omega, fun x hx => ?_, by omega, fun x hx => ?_, by omega, by omega⟩
  · have h6 := bulkL_mem (f := Node.bulk) hx
    unfold Node.bulk Manifest.bulk at h6
    have h7 : Node.bulk x = x.fMan.fSums.length + (x.fBld.fBuf.length + x.fKids.length) := rfl
    have h8 := bulkL_mem (f := Node.bulk) hx
    omega
  · have h8 := bulkL_mem (f := Disk.bulk) hx
    have h7 : Disk.bulk x = x.fA.length + (x.fB.length + bulkL Put.bulk x.fP) := rfl
    have h9 := bulkL_len (f := Put.bulk) x.fP
    omega
theorem impl_SameBut_eq {u : Nat} (hu : 1099511627776 ≤ u) {a b : World} (ha : M.WorldOk a) : impl_SameBut u a b = some (M.sameBut a b) := by
  unfold impl_SameBut M.sameBut
  rw [slices_Equal___int_int_eq hu ha.up, impl_SameBytes_eq, slices_EqualFunc___impl_Image___impl_Image_impl_Image_impl_Image__impl_SameBut_2_eq hu ha.old, slices_EqualFunc___impl_Node___impl_Node_impl_Node_impl_Node__impl_SameBut_1_eq hu ha.n ha.nodes,
    slices_EqualFunc___impl_Disk___impl_Disk_impl_Disk_impl_Disk__impl_sameDisk_eq hu ha.d ha.disks, impl_SamePackets_eq hu ha.net, slices_Equal___impl_Sent_impl_Sent_eq hu ha.log, conf_beq]
  simp only [Option.bind_some]
  cases decide (a.fC = b.fC) <;> cases M.same (fun x y => decide (x = y)) a.fT.fUp b.fT.fUp <;> cases M.sameBytes a.fNew b.fNew <;> cases M.same (fun x y => M.sameBytes x.fB y.fB) a.fOld b.fOld <;> cases M.same M.butDrops a.fN b.fN <;> cases M.same M.sameDisk a.fD b.fD <;> cases M.same M.samePacket a.fNet b.fNet <;> rfl
theorem spec_SameBut_loops {u : Nat} (hu : 1099511627776 ≤ u) {a b : World} (ha : M.WorldOk a) (h1 : a.fT.fUp.length = b.fT.fUp.length) (h2 : a.fOld.length = b.fOld.length) (h3 : a.fN.length = b.fN.length) (h4 : a.fD.length = b.fD.length) (h5 : a.fLog.length = b.fLog.length) :
    spec_SameBut_l11 u u 0 a b = some (M.all2 (fun x y => decide (x = y)) a.fT.fUp b.fT.fUp && (M.all2 (fun x y => M.sameBytes x.fB y.fB) a.fOld b.fOld && (M.all2 M.butDrops a.fN b.fN && (M.all2 M.sameDisk a.fD b.fD && M.all2 (fun x y => decide (x = y)) a.fLog b.fLog)))) := by
  have e5 : spec_SameBut_j5 u a b = some (M.all2 (fun x y => decide (x = y)) a.fLog b.fLog) := by
    unfold spec_SameBut_j5
    have := ha.log
    rw [spec_SameBut_l7_w u a b () u (by omega) (by omega), wlist_all2 (fun x y => decide (x = y)) h5 (fun x y i k hx hy => by unfold spec_SameBut_l7_b; rw [idx_nat, hy]; simp only [Option.bind_some, sent_beq]; cases decide (x = y) <;> rfl)]
    exact cond_some _
  have e4 : spec_SameBut_j4 u a b = some (M.all2 M.sameDisk a.fD b.fD && M.all2 (fun x y => decide (x = y)) a.fLog b.fLog) := by
    unfold spec_SameBut_j4
    have := ha.d
    rw [spec_SameBut_l8_w u a b () u (by omega) (by omega), wlist_all2 M.sameDisk h4 (fun x y i k hx hy => by unfold spec_SameBut_l8_b; rw [idx_nat, hy]; simp only [Option.bind_some]; rw [spec_l29SameDisk_eq hu (ha.disks x (List.mem_of_getElem? hx))]; simp only [Option.bind_some]; cases M.sameDisk x y <;> rfl)]
    unfold spec_SameBut_l8_f
    rw [e5]; cases M.all2 M.sameDisk a.fD b.fD <;> rfl
  have e3 : spec_SameBut_j3 u a b = some (M.all2 M.butDrops a.fN b.fN && (M.all2 M.sameDisk a.fD b.fD && M.all2 (fun x y => decide (x = y)) a.fLog b.fLog)) := by
    unfold spec_SameBut_j3
    have := ha.n
    rw [spec_SameBut_l9_w u a b () u (by omega) (by omega), wlist_all2 M.butDrops h3 (fun x y i k hx hy => by
      unfold spec_SameBut_l9_b M.butDrops
      rw [idx_nat, hy]
      simp only [Option.bind_some]
      rw [spec_SameNode_eq hu (a := ⟨x.fOn, x.fBoss, x.fQuiet, x.fMan, x.fBld, x.fPhase, x.fKids, y.fDrops⟩) (ha.nodes x (List.mem_of_getElem? hx)).1 (ha.nodes x (List.mem_of_getElem? hx)).2]
      simp only [Option.bind_some]
      generalize M.sameNode _ y = z
      cases z <;> rfl)]
    unfold spec_SameBut_l9_f
    rw [e4]; cases M.all2 M.butDrops a.fN b.fN <;> rfl
  have e2 : spec_SameBut_j2 u a b = some (M.all2 (fun x y => M.sameBytes x.fB y.fB) a.fOld b.fOld && (M.all2 M.butDrops a.fN b.fN && (M.all2 M.sameDisk a.fD b.fD && M.all2 (fun x y => decide (x = y)) a.fLog b.fLog))) := by
    unfold spec_SameBut_j2
    have := ha.old
    rw [spec_SameBut_l10_w u a b () u (by omega) (by omega), wlist_all2 (fun x y => M.sameBytes x.fB y.fB) h2 (fun x y i k hx hy => by unfold spec_SameBut_l10_b; rw [idx_nat, hy]; simp only [Option.bind_some, spec_SameBytes_eq]; cases M.sameBytes x.fB y.fB <;> rfl)]
    unfold spec_SameBut_l10_f
    rw [e3]; cases M.all2 (fun x y => M.sameBytes x.fB y.fB) a.fOld b.fOld <;> rfl
  have := ha.up
  rw [spec_SameBut_l11_w u a b () u (by omega) (by omega), wlist_all2 (fun x y => decide (x = y)) h1 (fun x y i k hx hy => by unfold spec_SameBut_l11_b; rw [idx_nat, hy]; simp only [Option.bind_some, ne_beq, int_beq]; cases decide (x = y) <;> rfl)]
  unfold spec_SameBut_l11_f
  rw [e2]; cases M.all2 (fun x y => decide (x = y)) a.fT.fUp b.fT.fUp <;> rfl
theorem len_beq (a b : Nat) : ((a : Int) == (b : Int)) = (a == b) := by rw [Bool.eq_iff_iff, beq_iff_eq, beq_iff_eq]; omega
theorem spec_SameBut_eq {u : Nat} (hu : 1099511627776 ≤ u) {a b : World} (ha : M.WorldOk a) : spec_SameBut u a b = some (M.sameBut a b) := by
  unfold spec_SameBut spec_SameBut_j1
  rw [spec_SameBytes_eq, spec_SamePackets_eq hu ha.net, conf_beq]
  simp only [Option.bind_some, ne_beq, cond_true, len_beq]
  unfold M.sameBut
  by_cases h1 : a.fT.fUp.length = b.fT.fUp.length
  · by_cases h2 : a.fOld.length = b.fOld.length
    · by_cases h3 : a.fN.length = b.fN.length
      · by_cases h4 : a.fD.length = b.fD.length
        · by_cases h5 : a.fLog.length = b.fLog.length
          · rw [spec_SameBut_loops hu ha h1 h2 h3 h4 h5]
            unfold M.same
            simp only [h1, h2, h3, h4, h5, beq_self_eq_true, Bool.true_and, Bool.not_true, cond_false]
            cases decide (a.fC = b.fC) <;> cases M.sameBytes a.fNew b.fNew <;> cases ((a.fNet.length == b.fNet.length) && M.all2 M.samePacket a.fNet b.fNet) <;> simp [Bool.and_assoc]
          · have : (a.fLog.length == b.fLog.length) = false := by simpa using h5
            have e : M.same (fun x y => decide (x = y)) a.fLog b.fLog = false := by simp [M.same, this]
            simp only [this, e, h1, h2, h3, h4, beq_self_eq_true, Bool.not_true, Bool.not_false, cond_false, cond_true, Bool.and_false]
            cases decide (a.fC = b.fC) <;> cases M.sameBytes a.fNew b.fNew <;> cases M.same M.samePacket a.fNet b.fNet <;> rfl
        · have : (a.fD.length == b.fD.length) = false := by simpa using h4
          have e : M.same M.sameDisk a.fD b.fD = false := by simp [M.same, this]
          simp only [this, e, h1, h2, h3, beq_self_eq_true, Bool.not_true, Bool.not_false, cond_false, cond_true, Bool.and_false, Bool.false_and]
          cases decide (a.fC = b.fC) <;> cases M.sameBytes a.fNew b.fNew <;> rfl
      · have : (a.fN.length == b.fN.length) = false := by simpa using h3
        have e : M.same M.butDrops a.fN b.fN = false := by simp [M.same, this]
        simp only [this, e, h1, h2, beq_self_eq_true, Bool.not_true, Bool.not_false, cond_false, cond_true, Bool.and_false, Bool.false_and]
        cases decide (a.fC = b.fC) <;> cases M.sameBytes a.fNew b.fNew <;> rfl
    · have : (a.fOld.length == b.fOld.length) = false := by simpa using h2
      have e : M.same (fun x y => M.sameBytes x.fB y.fB) a.fOld b.fOld = false := by simp [M.same, this]
      simp only [this, e, h1, beq_self_eq_true, Bool.not_true, Bool.not_false, cond_false, cond_true, Bool.and_false, Bool.false_and]
      cases decide (a.fC = b.fC) <;> cases M.sameBytes a.fNew b.fNew <;> rfl
  · have : (a.fT.fUp.length == b.fT.fUp.length) = false := by simpa using h1
    have e : M.same (fun x y => decide (x = y)) a.fT.fUp b.fT.fUp = false := by simp [M.same, this]
    simp only [this, e, Bool.not_false, cond_true, Bool.and_false, Bool.false_and]
    cases decide (a.fC = b.fC) <;> rfl
theorem SameBut_same {u : Nat} (hu : 1099511627776 ≤ u) {p0 p1 : World} (w0 : World.wf p0) (w1 : World.wf p1) (b0 : World.bulk p0 ≤ 1048576) (b1 : World.bulk p1 ≤ 1048576) : ∃ v, spec_SameBut u p0 p1 = some v ∧ impl_SameBut u p0 p1 = some v :=
  ⟨_, spec_SameBut_eq hu (worldOk w0 b0), impl_SameBut_eq hu (worldOk w0 b0)⟩
theorem SameBut_law (p0 : World) (p1 : World) (h : World.wf p0 ∧ World.wf p1 ∧ True) : laws_FnExactSameBut 1099511627776 p0 p1 = some true := by
  obtain ⟨w0, w1, _⟩ := h
  have hu : 1099511627776 ≤ 1099511627776 := Nat.le_refl _
  unfold laws_FnExactSameBut
  rw [laws_szWorld_eq hu (x := p0) (n := 1048576) (by omega) (by omega) w0]
  simp only [Option.bind_some]
  by_cases b0 : ((World.bulk p0 : Nat) : Int) ≤ 1048576
  · have c0 : ¬ (1048576 - ((World.bulk p0 : Nat) : Int) < 0) := by omega
    rw [leftI_pos b0]
    simp only [c0, decide_false, cond_false]
    rw [laws_szWorld_eq hu (x := p1) (n := (1048576 - ((World.bulk p0 : Nat) : Int))) (by omega) (by omega) w1]
    simp only [Option.bind_some]
    by_cases b1 : ((World.bulk p1 : Nat) : Int) ≤ (1048576 - ((World.bulk p0 : Nat) : Int))
    · have c1 : ¬ ((1048576 - ((World.bulk p0 : Nat) : Int)) - ((World.bulk p1 : Nat) : Int) < 0) := by omega
      rw [leftI_pos b1]
      simp only [c1, decide_false, cond_false]
      obtain ⟨v, e1, e2⟩ := SameBut_same hu w0 w1 (show _ ≤ 1048576 by omega) (show _ ≤ 1048576 by omega)
      simp only [laws_toWorld_eq hu (x := p0) (by omega), laws_eqWorld_eq hu (x := p0) (by omega), laws_toWorld_eq hu (x := p1) (by omega), laws_eqWorld_eq hu (x := p1) (by omega), e1, e2, Option.bind_some, bne_self_eq_false, beq_self_eq_true, Bool.not_true, cond_false]
    · rw [leftI_neg b1]; rfl
  · rw [leftI_neg b0]; rfl
end Go.Tm.Pu
