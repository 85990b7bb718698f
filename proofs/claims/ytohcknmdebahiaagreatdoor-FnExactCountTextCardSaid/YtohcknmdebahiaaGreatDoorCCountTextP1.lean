/- Plain laws of the functions. -/
import Derived.Test.YtohcknmdebahiaaGreatDoorCCountTextD
import Derived.Test.YtohcknmdebahiaaGreatDoorPu2
set_option linter.unusedVariables false
set_option linter.unusedSimpArgs false
namespace Go.Tm.Pu
open Go.Tm
theorem laws_szByteS_eq {u : Nat} (hu : 1099511627776 ≤ u) {x : List Int} {n : Int} (h0 : 0 ≤ n) (h1 : n ≤ 1048576) (hw : (wSl (wInt .u8)) x) : laws_szByteS u x n = some (leftI n x.length) := left_len h0 h1 hw.1
theorem laws_toByteS_eq {u : Nat} (hu : 1099511627776 ≤ u) {x : List Int} (h : x.length ≤ 68719476736) : laws_toByteS u x = some x := by
  have hlen : x.length ≤ 68719476736 := by omega
  unfold laws_toByteS
  rw [chk_len, chk_dec (by rw [Int.toNat_natCast]; omega)]
  simp only [Option.bind_some, Int.toNat_natCast]
  rw [laws_toByteS_l2_w u x _ u (by omega) (by omega), wlist_copy0]
  · rfl
  · intro y i s k hx hi
    unfold laws_toByteS_l2_b
    rw [idx_nat, List.getElem?_eq_getElem hi]; simp
theorem laws_eqByteS_eq {u : Nat} (hu : 1099511627776 ≤ u) {x : List Int} (h : x.length ≤ 68719476736) : laws_eqByteS u x x = some true := by
  have hlen : x.length ≤ 68719476736 := by omega
  unfold laws_eqByteS
  simp only [bne_self_eq_false, cond_false]
  rw [laws_eqByteS_l2_w u x x () u (by omega) (by omega), wlist_all (xs := x) _ x 0 (by simp)]
  · rfl
  · intro y i k hx
    unfold laws_eqByteS_l2_b
    rw [idx_nat, hx]; simp
theorem laws_toRecord_eq (u : Nat) (x : Record) : laws_toRecord u x = some x := by
  unfold laws_toRecord
  rfl
theorem laws_eqRecord_eq (u : Nat) (x : Record) : laws_eqRecord u x x = some true := by
  unfold laws_eqRecord
  simp []
def Put.bulk (x : Put) : Nat := x.fB.length
theorem laws_szPut_eq {u : Nat} (hu : 1099511627776 ≤ u) {x : Put} {n : Int} (h0 : 0 ≤ n) (h1 : n ≤ 1048576) (hw : Put.wf x) : laws_szPut u x n = some (leftI n (Put.bulk x)) := by
  unfold laws_szPut Put.bulk
  rw [laws_szByteS_eq hu h0 h1 hw.2.2.1]
  simp only [Option.bind_some]
  exact left_last
theorem laws_toPut_eq {u : Nat} (hu : 1099511627776 ≤ u) {x : Put} (h : Put.bulk x ≤ 68719476736) : laws_toPut u x = some x := by
  unfold Put.bulk at h
  unfold laws_toPut
  rw [laws_toByteS_eq hu (by omega), laws_toRecord_eq u _]; rfl
theorem laws_eqPut_eq {u : Nat} (hu : 1099511627776 ≤ u) {x : Put} (h : Put.bulk x ≤ 68719476736) : laws_eqPut u x x = some true := by
  unfold Put.bulk at h
  unfold laws_eqPut
  simp [laws_eqByteS_eq hu (x := x.fB) (by omega), laws_eqRecord_eq]
theorem laws_toKid_eq (u : Nat) (x : Kid) : laws_toKid u x = some x := by
  unfold laws_toKid
  rfl
theorem laws_eqKid_eq (u : Nat) (x : Kid) : laws_eqKid u x x = some true := by
  unfold laws_eqKid
  simp []
theorem laws_toSum_eq (u : Nat) (x : Sum) : laws_toSum u x = some x := by
  unfold laws_toSum
  rfl
theorem laws_eqSum_eq (u : Nat) (x : Sum) : laws_eqSum u x x = some true := by
  unfold laws_eqSum
  simp []
theorem laws_szIntS_eq {u : Nat} (hu : 1099511627776 ≤ u) {x : List Int} {n : Int} (h0 : 0 ≤ n) (h1 : n ≤ 1048576) (hw : (wSl (wInt .i64)) x) : laws_szIntS u x n = some (leftI n x.length) := left_len h0 h1 hw.1
theorem laws_toIntS_eq {u : Nat} (hu : 1099511627776 ≤ u) {x : List Int} (h : x.length ≤ 68719476736) : laws_toIntS u x = some x := by
  have hlen : x.length ≤ 68719476736 := by omega
  unfold laws_toIntS
  rw [chk_len, chk_dec (by rw [Int.toNat_natCast]; omega)]
  simp only [Option.bind_some, Int.toNat_natCast]
  rw [laws_toIntS_l2_w u x _ u (by omega) (by omega), wlist_copy0]
  · rfl
  · intro y i s k hx hi
    unfold laws_toIntS_l2_b
    rw [idx_nat, List.getElem?_eq_getElem hi]; simp
theorem laws_eqIntS_eq {u : Nat} (hu : 1099511627776 ≤ u) {x : List Int} (h : x.length ≤ 68719476736) : laws_eqIntS u x x = some true := by
  have hlen : x.length ≤ 68719476736 := by omega
  unfold laws_eqIntS
  simp only [bne_self_eq_false, cond_false]
  rw [laws_eqIntS_l2_w u x x () u (by omega) (by omega), wlist_all (xs := x) _ x 0 (by simp)]
  · rfl
  · intro y i k hx
    unfold laws_eqIntS_l2_b
    rw [idx_nat, hx]; simp
def Tree.bulk (x : Tree) : Nat := x.fUp.length
theorem laws_szTree_eq {u : Nat} (hu : 1099511627776 ≤ u) {x : Tree} {n : Int} (h0 : 0 ≤ n) (h1 : n ≤ 1048576) (hw : Tree.wf x) : laws_szTree u x n = some (leftI n (Tree.bulk x)) := by
  unfold laws_szTree Tree.bulk
  rw [laws_szIntS_eq hu h0 h1 hw.1]
  simp only [Option.bind_some]
  exact left_last
theorem laws_toTree_eq {u : Nat} (hu : 1099511627776 ≤ u) {x : Tree} (h : Tree.bulk x ≤ 68719476736) : laws_toTree u x = some x := by
  unfold Tree.bulk at h
  unfold laws_toTree
  rw [laws_toIntS_eq hu (by omega)]; rfl
theorem laws_eqTree_eq {u : Nat} (hu : 1099511627776 ≤ u) {x : Tree} (h : Tree.bulk x ≤ 68719476736) : laws_eqTree u x x = some true := by
  unfold Tree.bulk at h
  unfold laws_eqTree
  simp [laws_eqIntS_eq hu (x := x.fUp) (by omega)]
theorem laws_toConf_eq (u : Nat) (x : Conf) : laws_toConf u x = some x := by
  unfold laws_toConf
  rfl
theorem laws_eqConf_eq (u : Nat) (x : Conf) : laws_eqConf u x x = some true := by
  unfold laws_eqConf
  simp []
theorem laws_szSumS_eq {u : Nat} (hu : 1099511627776 ≤ u) {x : List Sum} {n : Int} (h0 : 0 ≤ n) (h1 : n ≤ 1048576) (hw : (wSl Sum.wf) x) : laws_szSumS u x n = some (leftI n x.length) := left_len h0 h1 hw.1
theorem laws_toSumS_eq {u : Nat} (hu : 1099511627776 ≤ u) {x : List Sum} (h : x.length ≤ 68719476736) : laws_toSumS u x = some x := by
  have hlen : x.length ≤ 68719476736 := by omega
  unfold laws_toSumS
  rw [chk_len, chk_dec (by rw [Int.toNat_natCast]; omega)]
  simp only [Option.bind_some, Int.toNat_natCast]
  rw [laws_toSumS_l2_w u x _ u (by omega) (by omega), wlist_copy0]
  · rfl
  · intro y i s k hx hi
    unfold laws_toSumS_l2_b
    rw [laws_toSum_eq u _]
    rw [idx_nat, List.getElem?_eq_getElem hi]; simp
theorem laws_eqSumS_eq {u : Nat} (hu : 1099511627776 ≤ u) {x : List Sum} (h : x.length ≤ 68719476736) : laws_eqSumS u x x = some true := by
  have hlen : x.length ≤ 68719476736 := by omega
  unfold laws_eqSumS
  simp only [bne_self_eq_false, cond_false]
  rw [laws_eqSumS_l2_w u x x () u (by omega) (by omega), wlist_all (xs := x) _ x 0 (by simp)]
  · rfl
  · intro y i k hx
    unfold laws_eqSumS_l2_b
    rw [idx_nat, hx]
    simp only [Option.bind_some]
    rw [laws_eqSum_eq]; simp
def Manifest.bulk (x : Manifest) : Nat := x.fSums.length
theorem laws_szManifest_eq {u : Nat} (hu : 1099511627776 ≤ u) {x : Manifest} {n : Int} (h0 : 0 ≤ n) (h1 : n ≤ 1048576) (hw : Manifest.wf x) : laws_szManifest u x n = some (leftI n (Manifest.bulk x)) := by
  unfold laws_szManifest Manifest.bulk
  rw [laws_szSumS_eq hu h0 h1 hw.2.2.2.1]
  simp only [Option.bind_some]
  exact left_last
theorem laws_toManifest_eq {u : Nat} (hu : 1099511627776 ≤ u) {x : Manifest} (h : Manifest.bulk x ≤ 68719476736) : laws_toManifest u x = some x := by
  unfold Manifest.bulk at h
  unfold laws_toManifest
  rw [laws_toSumS_eq hu (by omega)]; rfl
theorem laws_eqManifest_eq {u : Nat} (hu : 1099511627776 ≤ u) {x : Manifest} (h : Manifest.bulk x ≤ 68719476736) : laws_eqManifest u x x = some true := by
  unfold Manifest.bulk at h
  unfold laws_eqManifest
  simp [laws_eqSumS_eq hu (x := x.fSums) (by omega)]
def Build.bulk (x : Build) : Nat := x.fBuf.length
theorem laws_szBuild_eq {u : Nat} (hu : 1099511627776 ≤ u) {x : Build} {n : Int} (h0 : 0 ≤ n) (h1 : n ≤ 1048576) (hw : Build.wf x) : laws_szBuild u x n = some (leftI n (Build.bulk x)) := by
  unfold laws_szBuild Build.bulk
  rw [laws_szByteS_eq hu h0 h1 hw.2.1]
  simp only [Option.bind_some]
  exact left_last
theorem laws_toBuild_eq {u : Nat} (hu : 1099511627776 ≤ u) {x : Build} (h : Build.bulk x ≤ 68719476736) : laws_toBuild u x = some x := by
  unfold Build.bulk at h
  unfold laws_toBuild
  rw [laws_toByteS_eq hu (by omega)]; rfl
theorem laws_eqBuild_eq {u : Nat} (hu : 1099511627776 ≤ u) {x : Build} (h : Build.bulk x ≤ 68719476736) : laws_eqBuild u x x = some true := by
  unfold Build.bulk at h
  unfold laws_eqBuild
  simp [laws_eqByteS_eq hu (x := x.fBuf) (by omega)]
theorem laws_szKidS_eq {u : Nat} (hu : 1099511627776 ≤ u) {x : List Kid} {n : Int} (h0 : 0 ≤ n) (h1 : n ≤ 1048576) (hw : (wSl Kid.wf) x) : laws_szKidS u x n = some (leftI n x.length) := left_len h0 h1 hw.1
theorem laws_toKidS_eq {u : Nat} (hu : 1099511627776 ≤ u) {x : List Kid} (h : x.length ≤ 68719476736) : laws_toKidS u x = some x := by
  have hlen : x.length ≤ 68719476736 := by omega
  unfold laws_toKidS
  rw [chk_len, chk_dec (by rw [Int.toNat_natCast]; omega)]
  simp only [Option.bind_some, Int.toNat_natCast]
  rw [laws_toKidS_l2_w u x _ u (by omega) (by omega), wlist_copy0]
  · rfl
  · intro y i s k hx hi
    unfold laws_toKidS_l2_b
    rw [laws_toKid_eq u _]
    rw [idx_nat, List.getElem?_eq_getElem hi]; simp
theorem laws_eqKidS_eq {u : Nat} (hu : 1099511627776 ≤ u) {x : List Kid} (h : x.length ≤ 68719476736) : laws_eqKidS u x x = some true := by
  have hlen : x.length ≤ 68719476736 := by omega
  unfold laws_eqKidS
  simp only [bne_self_eq_false, cond_false]
  rw [laws_eqKidS_l2_w u x x () u (by omega) (by omega), wlist_all (xs := x) _ x 0 (by simp)]
  · rfl
  · intro y i k hx
    unfold laws_eqKidS_l2_b
    rw [idx_nat, hx]
    simp only [Option.bind_some]
    rw [laws_eqKid_eq]; simp
def Node.bulk (x : Node) : Nat := Manifest.bulk x.fMan + (Build.bulk x.fBld + (x.fKids.length))
theorem laws_szNode_eq {u : Nat} (hu : 1099511627776 ≤ u) {x : Node} {n : Int} (h0 : 0 ≤ n) (h1 : n ≤ 1048576) (hw : Node.wf x) : laws_szNode u x n = some (leftI n (Node.bulk x)) := by
  unfold laws_szNode Node.bulk
  rw [laws_szManifest_eq hu h0 h1 hw.2.2.2.1]
  simp only [Option.bind_some]
  exact left_step (c := Build.bulk x.fBld + (x.fKids.length)) (f := fun r => (laws_szBuild u x.fBld r).bind fun r1 => bif decide (r1 < 0) then some (-1) else ((laws_szKidS u x.fKids r1).bind fun r2 => bif decide (r2 < 0) then some (-1) else (some r2))) (fun v0 h2v0 h3v0 => by rw [laws_szBuild_eq hu h2v0 (by omega) hw.2.2.2.2.1]; simp only [Option.bind_some]; exact left_step (c := x.fKids.length) (f := fun r => (laws_szKidS u x.fKids r).bind fun r2 => bif decide (r2 < 0) then some (-1) else (some r2)) (fun v1 h2v1 h3v1 => by rw [laws_szKidS_eq hu h2v1 (by omega) hw.2.2.2.2.2.2.1]; simp only [Option.bind_some]; exact left_last) h2v0) h0
theorem laws_toNode_eq {u : Nat} (hu : 1099511627776 ≤ u) {x : Node} (h : Node.bulk x ≤ 68719476736) : laws_toNode u x = some x := by
  unfold Node.bulk at h
  unfold laws_toNode
  rw [laws_toManifest_eq hu (by omega), laws_toBuild_eq hu (by omega), laws_toKidS_eq hu (by omega)]; rfl
theorem laws_eqNode_eq {u : Nat} (hu : 1099511627776 ≤ u) {x : Node} (h : Node.bulk x ≤ 68719476736) : laws_eqNode u x x = some true := by
  unfold Node.bulk at h
  unfold laws_eqNode
  simp [laws_eqManifest_eq hu (x := x.fMan) (by omega), laws_eqBuild_eq hu (x := x.fBld) (by omega), laws_eqKidS_eq hu (x := x.fKids) (by omega)]
theorem laws_szPutS_eq {u : Nat} (hu : 1099511627776 ≤ u) {x : List Put} {n : Int} (h0 : 0 ≤ n) (h1 : n ≤ 1048576) (hw : (wSl Put.wf) x) : laws_szPutS u x n = some (leftI n (bulkL Put.bulk x)) :=
  left_list (c := sumL Put.bulk x) (f := fun r => laws_szPutS_l2 u u x r 0) (fun hm r h2 h3 => by
    rw [laws_szPutS_l2_w u x r u (by omega) (by omega)]
    exact wlist_sz (f := Put.bulk) (fun s => rfl) (fun y i s k hy hs0 hs1 => by unfold laws_szPutS_l2_b; rw [laws_szPut_eq hu hs0 hs1 (hw.2 y hy)]; rfl) x 0 r (fun _ h => h) h2 (by omega)) h0 h1 hw.1
theorem laws_toPutS_eq {u : Nat} (hu : 1099511627776 ≤ u) {x : List Put} (h : Pu.bulkL Put.bulk x ≤ 68719476736) : laws_toPutS u x = some x := by
  have hlen : x.length ≤ 68719476736 := by have := bulkL_len (f := Put.bulk) x; omega
  unfold laws_toPutS
  rw [chk_len, chk_dec (by rw [Int.toNat_natCast]; omega)]
  simp only [Option.bind_some, Int.toNat_natCast]
  rw [laws_toPutS_l2_w u x _ u (by omega) (by omega), wlist_copy0]
  · rfl
  · intro y i s k hx hi
    unfold laws_toPutS_l2_b
    rw [laws_toPut_eq hu (Nat.le_trans (bulkL_mem (f := Put.bulk) hx) h)]
    rw [idx_nat, List.getElem?_eq_getElem hi]; simp
theorem laws_eqPutS_eq {u : Nat} (hu : 1099511627776 ≤ u) {x : List Put} (h : Pu.bulkL Put.bulk x ≤ 68719476736) : laws_eqPutS u x x = some true := by
  have hlen : x.length ≤ 68719476736 := by have := bulkL_len (f := Put.bulk) x; omega
  unfold laws_eqPutS
  simp only [bne_self_eq_false, cond_false]
  rw [laws_eqPutS_l2_w u x x () u (by omega) (by omega), wlist_all (xs := x) _ x 0 (by simp)]
  · rfl
  · intro y i k hx
    unfold laws_eqPutS_l2_b
    rw [idx_nat, hx]
    simp only [Option.bind_some]
    rw [laws_eqPut_eq hu (Nat.le_trans (bulkL_mem (f := Put.bulk) (List.mem_of_getElem? hx)) h)]; simp
def Disk.bulk (x : Disk) : Nat := x.fA.length + (x.fB.length + (Pu.bulkL Put.bulk x.fP))
theorem laws_szDisk_eq {u : Nat} (hu : 1099511627776 ≤ u) {x : Disk} {n : Int} (h0 : 0 ≤ n) (h1 : n ≤ 1048576) (hw : Disk.wf x) : laws_szDisk u x n = some (leftI n (Disk.bulk x)) := by
  unfold laws_szDisk Disk.bulk
  rw [laws_szByteS_eq hu h0 h1 hw.1]
  simp only [Option.bind_some]
  exact left_step (c := x.fB.length + (Pu.bulkL Put.bulk x.fP)) (f := fun r => (laws_szByteS u x.fB r).bind fun r1 => bif decide (r1 < 0) then some (-1) else ((laws_szPutS u x.fP r1).bind fun r2 => bif decide (r2 < 0) then some (-1) else (some r2))) (fun v0 h2v0 h3v0 => by rw [laws_szByteS_eq hu h2v0 (by omega) hw.2.1]; simp only [Option.bind_some]; exact left_step (c := Pu.bulkL Put.bulk x.fP) (f := fun r => (laws_szPutS u x.fP r).bind fun r2 => bif decide (r2 < 0) then some (-1) else (some r2)) (fun v1 h2v1 h3v1 => by rw [laws_szPutS_eq hu h2v1 (by omega) hw.2.2.2.1]; simp only [Option.bind_some]; exact left_last) h2v0) h0
theorem laws_toDisk_eq {u : Nat} (hu : 1099511627776 ≤ u) {x : Disk} (h : Disk.bulk x ≤ 68719476736) : laws_toDisk u x = some x := by
  unfold Disk.bulk at h
  unfold laws_toDisk
  rw [laws_toByteS_eq hu (by omega), laws_toByteS_eq hu (by omega), laws_toRecord_eq u _, laws_toPutS_eq hu (by omega)]; rfl
theorem laws_eqDisk_eq {u : Nat} (hu : 1099511627776 ≤ u) {x : Disk} (h : Disk.bulk x ≤ 68719476736) : laws_eqDisk u x x = some true := by
  unfold Disk.bulk at h
  unfold laws_eqDisk
  simp [laws_eqByteS_eq hu (x := x.fA) (by omega), laws_eqByteS_eq hu (x := x.fB) (by omega), laws_eqRecord_eq, laws_eqPutS_eq hu (x := x.fP) (by omega)]
theorem laws_toSent_eq (u : Nat) (x : Sent) : laws_toSent u x = some x := by
  unfold laws_toSent
  rfl
theorem laws_eqSent_eq (u : Nat) (x : Sent) : laws_eqSent u x x = some true := by
  unfold laws_eqSent
  simp []
def Image.bulk (x : Image) : Nat := x.fB.length
theorem laws_szImage_eq {u : Nat} (hu : 1099511627776 ≤ u) {x : Image} {n : Int} (h0 : 0 ≤ n) (h1 : n ≤ 1048576) (hw : Image.wf x) : laws_szImage u x n = some (leftI n (Image.bulk x)) := by
  unfold laws_szImage Image.bulk
  rw [laws_szByteS_eq hu h0 h1 hw.1]
  simp only [Option.bind_some]
  exact left_last
theorem laws_toImage_eq {u : Nat} (hu : 1099511627776 ≤ u) {x : Image} (h : Image.bulk x ≤ 68719476736) : laws_toImage u x = some x := by
  unfold Image.bulk at h
  unfold laws_toImage
  rw [laws_toByteS_eq hu (by omega)]; rfl
theorem laws_eqImage_eq {u : Nat} (hu : 1099511627776 ≤ u) {x : Image} (h : Image.bulk x ≤ 68719476736) : laws_eqImage u x x = some true := by
  unfold Image.bulk at h
  unfold laws_eqImage
  simp [laws_eqByteS_eq hu (x := x.fB) (by omega)]
theorem laws_szImageS_eq {u : Nat} (hu : 1099511627776 ≤ u) {x : List Image} {n : Int} (h0 : 0 ≤ n) (h1 : n ≤ 1048576) (hw : (wSl Image.wf) x) : laws_szImageS u x n = some (leftI n (bulkL Image.bulk x)) :=
  left_list (c := sumL Image.bulk x) (f := fun r => laws_szImageS_l2 u u x r 0) (fun hm r h2 h3 => by
    rw [laws_szImageS_l2_w u x r u (by omega) (by omega)]
    exact wlist_sz (f := Image.bulk) (fun s => rfl) (fun y i s k hy hs0 hs1 => by unfold laws_szImageS_l2_b; rw [laws_szImage_eq hu hs0 hs1 (hw.2 y hy)]; rfl) x 0 r (fun _ h => h) h2 (by omega)) h0 h1 hw.1
theorem laws_toImageS_eq {u : Nat} (hu : 1099511627776 ≤ u) {x : List Image} (h : Pu.bulkL Image.bulk x ≤ 68719476736) : laws_toImageS u x = some x := by
  have hlen : x.length ≤ 68719476736 := by have := bulkL_len (f := Image.bulk) x; omega
  unfold laws_toImageS
  rw [chk_len, chk_dec (by rw [Int.toNat_natCast]; omega)]
  simp only [Option.bind_some, Int.toNat_natCast]
  rw [laws_toImageS_l2_w u x _ u (by omega) (by omega), wlist_copy0]
  · rfl
  · intro y i s k hx hi
    unfold laws_toImageS_l2_b
    rw [laws_toImage_eq hu (Nat.le_trans (bulkL_mem (f := Image.bulk) hx) h)]
    rw [idx_nat, List.getElem?_eq_getElem hi]; simp
theorem laws_eqImageS_eq {u : Nat} (hu : 1099511627776 ≤ u) {x : List Image} (h : Pu.bulkL Image.bulk x ≤ 68719476736) : laws_eqImageS u x x = some true := by
  have hlen : x.length ≤ 68719476736 := by have := bulkL_len (f := Image.bulk) x; omega
  unfold laws_eqImageS
  simp only [bne_self_eq_false, cond_false]
  rw [laws_eqImageS_l2_w u x x () u (by omega) (by omega), wlist_all (xs := x) _ x 0 (by simp)]
  · rfl
  · intro y i k hx
    unfold laws_eqImageS_l2_b
    rw [idx_nat, hx]
    simp only [Option.bind_some]
    rw [laws_eqImage_eq hu (Nat.le_trans (bulkL_mem (f := Image.bulk) (List.mem_of_getElem? hx)) h)]; simp
theorem laws_szNodeS_eq {u : Nat} (hu : 1099511627776 ≤ u) {x : List Node} {n : Int} (h0 : 0 ≤ n) (h1 : n ≤ 1048576) (hw : (wSl Node.wf) x) : laws_szNodeS u x n = some (leftI n (bulkL Node.bulk x)) :=
  left_list (c := sumL Node.bulk x) (f := fun r => laws_szNodeS_l2 u u x r 0) (fun hm r h2 h3 => by
    rw [laws_szNodeS_l2_w u x r u (by omega) (by omega)]
    exact wlist_sz (f := Node.bulk) (fun s => rfl) (fun y i s k hy hs0 hs1 => by unfold laws_szNodeS_l2_b; rw [laws_szNode_eq hu hs0 hs1 (hw.2 y hy)]; rfl) x 0 r (fun _ h => h) h2 (by omega)) h0 h1 hw.1
theorem laws_toNodeS_eq {u : Nat} (hu : 1099511627776 ≤ u) {x : List Node} (h : Pu.bulkL Node.bulk x ≤ 68719476736) : laws_toNodeS u x = some x := by
  have hlen : x.length ≤ 68719476736 := by have := bulkL_len (f := Node.bulk) x; omega
  unfold laws_toNodeS
  rw [chk_len, chk_dec (by rw [Int.toNat_natCast]; omega)]
  simp only [Option.bind_some, Int.toNat_natCast]
  rw [laws_toNodeS_l2_w u x _ u (by omega) (by omega), wlist_copy0]
  · rfl
  · intro y i s k hx hi
    unfold laws_toNodeS_l2_b
    rw [laws_toNode_eq hu (Nat.le_trans (bulkL_mem (f := Node.bulk) hx) h)]
    rw [idx_nat, List.getElem?_eq_getElem hi]; simp
theorem laws_eqNodeS_eq {u : Nat} (hu : 1099511627776 ≤ u) {x : List Node} (h : Pu.bulkL Node.bulk x ≤ 68719476736) : laws_eqNodeS u x x = some true := by
  have hlen : x.length ≤ 68719476736 := by have := bulkL_len (f := Node.bulk) x; omega
  unfold laws_eqNodeS
  simp only [bne_self_eq_false, cond_false]
  rw [laws_eqNodeS_l2_w u x x () u (by omega) (by omega), wlist_all (xs := x) _ x 0 (by simp)]
  · rfl
  · intro y i k hx
    unfold laws_eqNodeS_l2_b
    rw [idx_nat, hx]
    simp only [Option.bind_some]
    rw [laws_eqNode_eq hu (Nat.le_trans (bulkL_mem (f := Node.bulk) (List.mem_of_getElem? hx)) h)]; simp
theorem laws_szDiskS_eq {u : Nat} (hu : 1099511627776 ≤ u) {x : List Disk} {n : Int} (h0 : 0 ≤ n) (h1 : n ≤ 1048576) (hw : (wSl Disk.wf) x) : laws_szDiskS u x n = some (leftI n (bulkL Disk.bulk x)) :=
  left_list (c := sumL Disk.bulk x) (f := fun r => laws_szDiskS_l2 u u x r 0) (fun hm r h2 h3 => by
    rw [laws_szDiskS_l2_w u x r u (by omega) (by omega)]
    exact wlist_sz (f := Disk.bulk) (fun s => rfl) (fun y i s k hy hs0 hs1 => by unfold laws_szDiskS_l2_b; rw [laws_szDisk_eq hu hs0 hs1 (hw.2 y hy)]; rfl) x 0 r (fun _ h => h) h2 (by omega)) h0 h1 hw.1
theorem laws_toDiskS_eq {u : Nat} (hu : 1099511627776 ≤ u) {x : List Disk} (h : Pu.bulkL Disk.bulk x ≤ 68719476736) : laws_toDiskS u x = some x := by
  have hlen : x.length ≤ 68719476736 := by have := bulkL_len (f := Disk.bulk) x; omega
  unfold laws_toDiskS
  rw [chk_len, chk_dec (by rw [Int.toNat_natCast]; omega)]
  simp only [Option.bind_some, Int.toNat_natCast]
  rw [laws_toDiskS_l2_w u x _ u (by omega) (by omega), wlist_copy0]
  · rfl
  · intro y i s k hx hi
    unfold laws_toDiskS_l2_b
    rw [laws_toDisk_eq hu (Nat.le_trans (bulkL_mem (f := Disk.bulk) hx) h)]
    rw [idx_nat, List.getElem?_eq_getElem hi]; simp
theorem laws_eqDiskS_eq {u : Nat} (hu : 1099511627776 ≤ u) {x : List Disk} (h : Pu.bulkL Disk.bulk x ≤ 68719476736) : laws_eqDiskS u x x = some true := by
  have hlen : x.length ≤ 68719476736 := by have := bulkL_len (f := Disk.bulk) x; omega
  unfold laws_eqDiskS
  simp only [bne_self_eq_false, cond_false]
  rw [laws_eqDiskS_l2_w u x x () u (by omega) (by omega), wlist_all (xs := x) _ x 0 (by simp)]
  · rfl
  · intro y i k hx
    unfold laws_eqDiskS_l2_b
    rw [idx_nat, hx]
    simp only [Option.bind_some]
    rw [laws_eqDisk_eq hu (Nat.le_trans (bulkL_mem (f := Disk.bulk) (List.mem_of_getElem? hx)) h)]; simp
def Packet.bulk (x : Packet) : Nat := x.fB.length
theorem laws_szPacket_eq {u : Nat} (hu : 1099511627776 ≤ u) {x : Packet} {n : Int} (h0 : 0 ≤ n) (h1 : n ≤ 1048576) (hw : Packet.wf x) : laws_szPacket u x n = some (leftI n (Packet.bulk x)) := by
  unfold laws_szPacket Packet.bulk
  rw [laws_szByteS_eq hu h0 h1 hw.2.2.1]
  simp only [Option.bind_some]
  exact left_last
theorem laws_toPacket_eq {u : Nat} (hu : 1099511627776 ≤ u) {x : Packet} (h : Packet.bulk x ≤ 68719476736) : laws_toPacket u x = some x := by
  unfold Packet.bulk at h
  unfold laws_toPacket
  rw [laws_toByteS_eq hu (by omega)]; rfl
theorem laws_eqPacket_eq {u : Nat} (hu : 1099511627776 ≤ u) {x : Packet} (h : Packet.bulk x ≤ 68719476736) : laws_eqPacket u x x = some true := by
  unfold Packet.bulk at h
  unfold laws_eqPacket
  simp [laws_eqByteS_eq hu (x := x.fB) (by omega)]
theorem laws_szPacketS_eq {u : Nat} (hu : 1099511627776 ≤ u) {x : List Packet} {n : Int} (h0 : 0 ≤ n) (h1 : n ≤ 1048576) (hw : (wSl Packet.wf) x) : laws_szPacketS u x n = some (leftI n (bulkL Packet.bulk x)) :=
  left_list (c := sumL Packet.bulk x) (f := fun r => laws_szPacketS_l2 u u x r 0) (fun hm r h2 h3 => by
    rw [laws_szPacketS_l2_w u x r u (by omega) (by omega)]
    exact wlist_sz (f := Packet.bulk) (fun s => rfl) (fun y i s k hy hs0 hs1 => by unfold laws_szPacketS_l2_b; rw [laws_szPacket_eq hu hs0 hs1 (hw.2 y hy)]; rfl) x 0 r (fun _ h => h) h2 (by omega)) h0 h1 hw.1
theorem laws_toPacketS_eq {u : Nat} (hu : 1099511627776 ≤ u) {x : List Packet} (h : Pu.bulkL Packet.bulk x ≤ 68719476736) : laws_toPacketS u x = some x := by
  have hlen : x.length ≤ 68719476736 := by have := bulkL_len (f := Packet.bulk) x; omega
  unfold laws_toPacketS
  rw [chk_len, chk_dec (by rw [Int.toNat_natCast]; omega)]
  simp only [Option.bind_some, Int.toNat_natCast]
  rw [laws_toPacketS_l2_w u x _ u (by omega) (by omega), wlist_copy0]
  · rfl
  · intro y i s k hx hi
    unfold laws_toPacketS_l2_b
    rw [laws_toPacket_eq hu (Nat.le_trans (bulkL_mem (f := Packet.bulk) hx) h)]
    rw [idx_nat, List.getElem?_eq_getElem hi]; simp
theorem laws_eqPacketS_eq {u : Nat} (hu : 1099511627776 ≤ u) {x : List Packet} (h : Pu.bulkL Packet.bulk x ≤ 68719476736) : laws_eqPacketS u x x = some true := by
  have hlen : x.length ≤ 68719476736 := by have := bulkL_len (f := Packet.bulk) x; omega
  unfold laws_eqPacketS
  simp only [bne_self_eq_false, cond_false]
  rw [laws_eqPacketS_l2_w u x x () u (by omega) (by omega), wlist_all (xs := x) _ x 0 (by simp)]
  · rfl
  · intro y i k hx
    unfold laws_eqPacketS_l2_b
    rw [idx_nat, hx]
    simp only [Option.bind_some]
    rw [laws_eqPacket_eq hu (Nat.le_trans (bulkL_mem (f := Packet.bulk) (List.mem_of_getElem? hx)) h)]; simp
theorem laws_szSentS_eq {u : Nat} (hu : 1099511627776 ≤ u) {x : List Sent} {n : Int} (h0 : 0 ≤ n) (h1 : n ≤ 1048576) (hw : (wSl Sent.wf) x) : laws_szSentS u x n = some (leftI n x.length) := left_len h0 h1 hw.1
theorem laws_toSentS_eq {u : Nat} (hu : 1099511627776 ≤ u) {x : List Sent} (h : x.length ≤ 68719476736) : laws_toSentS u x = some x := by
  have hlen : x.length ≤ 68719476736 := by omega
  unfold laws_toSentS
  rw [chk_len, chk_dec (by rw [Int.toNat_natCast]; omega)]
  simp only [Option.bind_some, Int.toNat_natCast]
  rw [laws_toSentS_l2_w u x _ u (by omega) (by omega), wlist_copy0]
  · rfl
  · intro y i s k hx hi
    unfold laws_toSentS_l2_b
    rw [laws_toSent_eq u _]
    rw [idx_nat, List.getElem?_eq_getElem hi]; simp
theorem laws_eqSentS_eq {u : Nat} (hu : 1099511627776 ≤ u) {x : List Sent} (h : x.length ≤ 68719476736) : laws_eqSentS u x x = some true := by
  have hlen : x.length ≤ 68719476736 := by omega
  unfold laws_eqSentS
  simp only [bne_self_eq_false, cond_false]
  rw [laws_eqSentS_l2_w u x x () u (by omega) (by omega), wlist_all (xs := x) _ x 0 (by simp)]
  · rfl
  · intro y i k hx
    unfold laws_eqSentS_l2_b
    rw [idx_nat, hx]
    simp only [Option.bind_some]
    rw [laws_eqSent_eq]; simp
def World.bulk (x : World) : Nat := Tree.bulk x.fT + (x.fNew.length + (Pu.bulkL Image.bulk x.fOld + (Pu.bulkL Node.bulk x.fN + (Pu.bulkL Disk.bulk x.fD + (Pu.bulkL Packet.bulk x.fNet + (x.fLog.length))))))
theorem laws_szWorld_eq {u : Nat} (hu : 1099511627776 ≤ u) {x : World} {n : Int} (h0 : 0 ≤ n) (h1 : n ≤ 1048576) (hw : World.wf x) : laws_szWorld u x n = some (leftI n (World.bulk x)) := by
  unfold laws_szWorld World.bulk
  rw [laws_szTree_eq hu h0 h1 hw.2.1]
  simp only [Option.bind_some]
  exact left_step (c := x.fNew.length + (Pu.bulkL Image.bulk x.fOld + (Pu.bulkL Node.bulk x.fN + (Pu.bulkL Disk.bulk x.fD + (Pu.bulkL Packet.bulk x.fNet + (x.fLog.length)))))) (f := fun r => (laws_szByteS u x.fNew r).bind fun r1 => bif decide (r1 < 0) then some (-1) else ((laws_szImageS u x.fOld r1).bind fun r2 => bif decide (r2 < 0) then some (-1) else ((laws_szNodeS u x.fN r2).bind fun r3 => bif decide (r3 < 0) then some (-1) else ((laws_szDiskS u x.fD r3).bind fun r4 => bif decide (r4 < 0) then some (-1) else ((laws_szPacketS u x.fNet r4).bind fun r5 => bif decide (r5 < 0) then some (-1) else ((laws_szSentS u x.fLog r5).bind fun r6 => bif decide (r6 < 0) then some (-1) else (some r6))))))) (fun v0 h2v0 h3v0 => by rw [laws_szByteS_eq hu h2v0 (by omega) hw.2.2.1]; simp only [Option.bind_some]; exact left_step (c := Pu.bulkL Image.bulk x.fOld + (Pu.bulkL Node.bulk x.fN + (Pu.bulkL Disk.bulk x.fD + (Pu.bulkL Packet.bulk x.fNet + (x.fLog.length))))) (f := fun r => (laws_szImageS u x.fOld r).bind fun r2 => bif decide (r2 < 0) then some (-1) else ((laws_szNodeS u x.fN r2).bind fun r3 => bif decide (r3 < 0) then some (-1) else ((laws_szDiskS u x.fD r3).bind fun r4 => bif decide (r4 < 0) then some (-1) else ((laws_szPacketS u x.fNet r4).bind fun r5 => bif decide (r5 < 0) then some (-1) else ((laws_szSentS u x.fLog r5).bind fun r6 => bif decide (r6 < 0) then some (-1) else (some r6)))))) (fun v1 h2v1 h3v1 => by rw [laws_szImageS_eq hu h2v1 (by omega) hw.2.2.2.1]; simp only [Option.bind_some]; exact left_step (c := Pu.bulkL Node.bulk x.fN + (Pu.bulkL Disk.bulk x.fD + (Pu.bulkL Packet.bulk x.fNet + (x.fLog.length)))) (f := fun r => (laws_szNodeS u x.fN r).bind fun r3 => bif decide (r3 < 0) then some (-1) else ((laws_szDiskS u x.fD r3).bind fun r4 => bif decide (r4 < 0) then some (-1) else ((laws_szPacketS u x.fNet r4).bind fun r5 => bif decide (r5 < 0) then some (-1) else ((laws_szSentS u x.fLog r5).bind fun r6 => bif decide (r6 < 0) then some (-1) else (some r6))))) (fun v2 h2v2 h3v2 => by rw [laws_szNodeS_eq hu h2v2 (by omega) hw.2.2.2.2.1]; simp only [Option.bind_some]; exact left_step (c := Pu.bulkL Disk.bulk x.fD + (Pu.bulkL Packet.bulk x.fNet + (x.fLog.length))) (f := fun r => (laws_szDiskS u x.fD r).bind fun r4 => bif decide (r4 < 0) then some (-1) else ((laws_szPacketS u x.fNet r4).bind fun r5 => bif decide (r5 < 0) then some (-1) else ((laws_szSentS u x.fLog r5).bind fun r6 => bif decide (r6 < 0) then some (-1) else (some r6)))) (fun v3 h2v3 h3v3 => by rw [laws_szDiskS_eq hu h2v3 (by omega) hw.2.2.2.2.2.1]; simp only [Option.bind_some]; exact left_step (c := Pu.bulkL Packet.bulk x.fNet + (x.fLog.length)) (f := fun r => (laws_szPacketS u x.fNet r).bind fun r5 => bif decide (r5 < 0) then some (-1) else ((laws_szSentS u x.fLog r5).bind fun r6 => bif decide (r6 < 0) then some (-1) else (some r6))) (fun v4 h2v4 h3v4 => by rw [laws_szPacketS_eq hu h2v4 (by omega) hw.2.2.2.2.2.2.1]; simp only [Option.bind_some]; exact left_step (c := x.fLog.length) (f := fun r => (laws_szSentS u x.fLog r).bind fun r6 => bif decide (r6 < 0) then some (-1) else (some r6)) (fun v5 h2v5 h3v5 => by rw [laws_szSentS_eq hu h2v5 (by omega) hw.2.2.2.2.2.2.2.1]; simp only [Option.bind_some]; exact left_last) h2v4) h2v3) h2v2) h2v1) h2v0) h0
theorem laws_toWorld_eq {u : Nat} (hu : 1099511627776 ≤ u) {x : World} (h : World.bulk x ≤ 68719476736) : laws_toWorld u x = some x := by
  unfold World.bulk at h
  unfold laws_toWorld
  rw [laws_toConf_eq u _, laws_toTree_eq hu (by omega), laws_toByteS_eq hu (by omega), laws_toImageS_eq hu (by omega), laws_toNodeS_eq hu (by omega), laws_toDiskS_eq hu (by omega), laws_toPacketS_eq hu (by omega), laws_toSentS_eq hu (by omega)]; rfl
theorem laws_eqWorld_eq {u : Nat} (hu : 1099511627776 ≤ u) {x : World} (h : World.bulk x ≤ 68719476736) : laws_eqWorld u x x = some true := by
  unfold World.bulk at h
  unfold laws_eqWorld
  simp [laws_eqConf_eq, laws_eqTree_eq hu (x := x.fT) (by omega), laws_eqByteS_eq hu (x := x.fNew) (by omega), laws_eqImageS_eq hu (x := x.fOld) (by omega), laws_eqNodeS_eq hu (x := x.fN) (by omega), laws_eqDiskS_eq hu (x := x.fD) (by omega), laws_eqPacketS_eq hu (x := x.fNet) (by omega), laws_eqSentS_eq hu (x := x.fLog) (by omega)]
def M.num (n : Int) : ByteArray := ⟨(Lib.itoa n).toArray⟩
theorem num_size {n : Int} (h0 : -9223372036854775808 ≤ n) (h1 : n ≤ 9223372036854775807) : (M.num n).size ≤ 21 := by
  have := Lib.itoa_length_le n h0 h1
  simpa [M.num, ByteArray.size] using this
theorem itoa_eq {u : Nat} {n : Int} (h0 : -9223372036854775808 ≤ n) (h1 : n ≤ 9223372036854775807) : strconv_Itoa u n = some (M.num n) := by
  unfold strconv_Itoa M.num
  simp [h0, h1]
theorem impl_NumText_eq {u : Nat} {n : Int} (h0 : -9223372036854775808 ≤ n) (h1 : n ≤ 9223372036854775807) : impl_NumText u n = some (M.num n) := by
  unfold impl_NumText
  rw [itoa_eq h0 h1]; rfl
def M.dg (m : Nat) : List UInt8 := if m = 0 then [] else Lib.decDigits m
theorem dg_step {m : Nat} (h : m ≠ 0) : M.dg m = M.dg (m / 10) ++ [UInt8.ofNat (48 + m % 10)] := by
  unfold M.dg
  rw [if_neg h, Lib.decDigits]
  by_cases h10 : m < 10
  · rw [dif_pos h10, if_pos (by omega), Nat.mod_eq_of_lt h10]; rfl
  · rw [dif_neg h10, if_neg (by omega)]
theorem byte_dig (d : Nat) (h : d < 10) : strOfNums [IntKind.wrap .u8 (bAdd .i64 48 (d : Int))] = ByteArray.mk #[UInt8.ofNat (48 + d)] := by
  have : ∀ d : Fin 10, strOfNums [IntKind.wrap .u8 (bAdd .i64 48 (d.val : Int))] = ByteArray.mk #[UInt8.ofNat (48 + d.val)] := by decide
  exact this ⟨d, h⟩
theorem ba_ext {a b : ByteArray} (h : a.data.toList = b.data.toList) : a = b := by
  cases a; cases b
  congr
  exact Array.toList_inj.1 h
theorem ba_app (a b : ByteArray) : (a ++ b).data.toList = a.data.toList ++ b.data.toList := by
  rw [ByteArray.data_append]; simp
theorem num_l2 {u : Nat} (p0 : Int) (sg : Int) (hs : sg = 1 ∨ sg = -1) : ∀ (j m k : Nat) (acc : ByteArray), m < 10 ^ j → m ≤ 9223372036854775808 → (sg = 1 → m ≤ 9223372036854775807) → j < k → acc.size + j ≤ 1000 →
    spec_NumText_l2 u k p0 acc (sg * m) = spec_NumText_j1 u p0 (ByteArray.mk (M.dg m).toArray ++ acc) := by
  have hnil : ∀ acc : ByteArray, ByteArray.mk (M.dg 0).toArray ++ acc = acc := fun acc => ba_ext (by rw [ba_app]; rfl)
  intro j
  induction j with
  | zero =>
    intro m k acc hm _ _ hk _
    obtain rfl : m = 0 := by simpa using hm
    obtain ⟨k, rfl⟩ : ∃ k', k = k' + 1 := ⟨k - 1, by omega⟩
    unfold spec_NumText_l2
    rw [hnil]
    simp
  | succ j ih =>
    intro m k acc hm hr hr1 hk ha
    obtain ⟨k, rfl⟩ : ∃ k', k = k' + 1 := ⟨k - 1, by omega⟩
    by_cases h0 : m = 0
    · subst h0
      unfold spec_NumText_l2
      rw [hnil]
      simp
    have hd : m % 10 < 10 := Nat.mod_lt _ (by omega)
    have hq : bQuo .i64 (sg * (m : Int)) 10 = sg * ((m / 10 : Nat) : Int) := by
      have e : (sg * (m : Int)).tdiv 10 = sg * ((m / 10 : Nat) : Int) := by
        rcases hs with rfl | rfl
        · rw [Int.one_mul, Int.one_mul]; rfl
        · rw [Int.neg_mul, Int.one_mul, Int.neg_mul, Int.one_mul, Int.neg_tdiv]; rfl
      unfold bQuo
      rw [e, wrap_i64] <;> rcases hs with rfl | rfl <;> omega
    have hrm : bRem .i64 (sg * (m : Int)) 10 = sg * ((m % 10 : Nat) : Int) := by
      unfold bRem
      rcases hs with rfl | rfl
      · rw [Int.one_mul, Int.one_mul]; rfl
      · rw [Int.neg_mul, Int.one_mul, Int.neg_mul, Int.one_mul, Int.neg_tmod]; rfl
    have hj3 : spec_NumText_j3 u (fun z0 z1 z2 => spec_NumText_l2 u k z0 z1 z2) p0 acc (sg * (m : Int)) ((m % 10 : Nat) : Int) = spec_NumText_j1 u p0 (ByteArray.mk (M.dg m).toArray ++ acc) := by
      unfold spec_NumText_j3
      rw [byte_dig _ hd, hq]
      have hsz : (ByteArray.mk #[UInt8.ofNat (48 + m % 10)]).size = 1 := rfl
      have hc : decide ((ByteArray.mk #[UInt8.ofNat (48 + m % 10)]).size + acc.size ≤ 9223372036854775807) = true := by rw [hsz]; simp; omega
      rw [hc]
      simp only [chk, if_true, Option.bind_some]
      rw [ih (m / 10) k _ (by rw [Nat.pow_succ] at hm; omega) (by omega) (fun _ => by omega) (by omega) (by rw [ByteArray.size_append, hsz]; omega)]
      congr 1
      refine ba_ext ?_
      rw [ba_app, ba_app, ba_app, dg_step h0]
      simp
    unfold spec_NumText_l2
    have hne : (sg * (m : Int) != 0) = true := by rcases hs with rfl | rfl <;> simp <;> omega
    rw [hne, cond_true, hrm]
    by_cases hneg : sg * ((m % 10 : Nat) : Int) < 0
    · rw [decide_eq_true hneg, cond_true]
      have : bSub .i64 0 (sg * ((m % 10 : Nat) : Int)) = ((m % 10 : Nat) : Int) := by
        rw [bSub_i64] <;> rcases hs with rfl | rfl <;> omega
      rw [this]
      exact hj3
    · rw [decide_eq_false hneg, cond_false]
      have : sg * ((m % 10 : Nat) : Int) = ((m % 10 : Nat) : Int) := by rcases hs with rfl | rfl <;> omega
      rw [this]
      exact hj3
theorem spec_NumText_eq {u : Nat} (hu : 1099511627776 ≤ u) {n : Int} (h0 : -9223372036854775808 ≤ n) (h1 : n ≤ 9223372036854775807) : spec_NumText u n = some (M.num n) := by
  unfold spec_NumText
  by_cases hz : n = 0
  · subst hz
    have : M.num 0 = ByteArray.mk #[48] := by
      unfold M.num Lib.itoa
      rw [if_neg (by omega), show (0 : Int).toNat = 0 by rfl, Lib.decDigits_one (by omega)]
      rfl
    rw [this]; rfl
  rw [beq_eq_false_iff_ne.2 hz, cond_false]
  rcases Int.lt_or_lt_of_ne hz with hl | hl
  · obtain ⟨m, rfl⟩ : ∃ m : Nat, n = -1 * (m : Int) := ⟨n.natAbs, by omega⟩
    rw [num_l2 (-1 * (m : Int)) (-1) (.inr rfl) 19 m u _ (by omega) (by omega) (fun h => by omega) (by omega) (by show 0 + 19 ≤ 1000; omega)]
    unfold spec_NumText_j1
    rw [decide_eq_true hl, cond_true]
    have hm0 : m ≠ 0 := by omega
    have hd : M.dg m = Lib.decDigits m := by unfold M.dg; rw [if_neg hm0]
    have hsz : (ByteArray.mk (M.dg m).toArray ++ ByteArray.mk #[]).size ≤ 21 := by
      have := num_size h0 h1
      have e : M.num (-1 * (m : Int)) = ByteArray.mk (45 :: Lib.decDigits m).toArray := by
        unfold M.num; rw [show (-1 * (m : Int)) = -(m : Int) by omega, Lib.itoa_neg m (by omega)]
      rw [e] at this
      rw [hd, ByteArray.size_append]
      simp only [ByteArray.size, List.size_toArray, List.length_cons] at this ⊢
      simp; omega
    have hc : decide ((ByteArray.mk #[45]).size + (ByteArray.mk (M.dg m).toArray ++ ByteArray.mk #[]).size ≤ 9223372036854775807) = true := by
      have : (ByteArray.mk #[45]).size = 1 := rfl
      rw [this]; simp only [decide_eq_true_eq]; omega
    rw [hc]
    simp only [chk, if_true, Option.bind_some, Option.some.injEq]
    refine ba_ext ?_
    rw [ba_app, ba_app, hd]
    unfold M.num
    rw [show (-1 * (m : Int)) = -(m : Int) by omega, Lib.itoa_neg m (by omega)]
    simp
  · obtain ⟨m, rfl⟩ : ∃ m : Nat, n = 1 * (m : Int) := ⟨n.toNat, by omega⟩
    rw [num_l2 (1 * (m : Int)) 1 (.inl rfl) 19 m u _ (by omega) (by omega) (fun h => by omega) (by omega) (by show 0 + 19 ≤ 1000; omega)]
    unfold spec_NumText_j1
    rw [decide_eq_false (by omega), cond_false]
    have hm0 : m ≠ 0 := by omega
    congr 1
    refine ba_ext ?_
    rw [ba_app]
    unfold M.num M.dg
    rw [if_neg hm0, Int.one_mul, Lib.itoa_nonneg]
    simp
theorem i64_b {n : Int} (h : wInt .i64 n) : -9223372036854775808 ≤ n ∧ n ≤ 9223372036854775807 := h
theorem idx_lit {α : Type} (l : List α) (k : Nat) {v : α} (h : l[k]? = some v) : idx l (k : Int) = some v := by
  unfold idx
  simp [h]
def M.isBytes (b : List Int) : Prop := ∀ x ∈ b, 0 ≤ x ∧ x ≤ 255
theorem bytes_wf {b : List Int} (h : wSl (wInt .u8) b) : M.isBytes b := fun x hx => h.2 x hx
def M.imgsOk (old : List Image) : Prop := ∀ x ∈ old, M.isBytes x.fB ∧ x.fB.length ≤ 1048576
theorem imgs_wf {l : List Image} (h : wSl Image.wf l) (hb : bulkL Image.bulk l ≤ 1048576) : M.imgsOk l := fun x hx => by
  have h1 : x.fB.length ≤ bulkL Image.bulk l := bulkL_mem (f := Image.bulk) hx
  exact ⟨bytes_wf (h.2 x hx).1, by omega⟩
def M.nodesOk (l : List Node) : Prop := ∀ x ∈ l, x.fMan.fSums.length ≤ 1048576 ∧ x.fKids.length ≤ 1048576
def M.disksOk (l : List Disk) : Prop := ∀ x ∈ l, x.fP.length ≤ 1048576
structure M.WorldOk (w : World) : Prop where
  up : w.fT.fUp.length ≤ 1048576
  new : w.fNew.length ≤ 1048576
  old : w.fOld.length ≤ 1048576
  oldB : M.imgsOk w.fOld
  n : w.fN.length ≤ 1048576
  nodes : M.nodesOk w.fN
  d : w.fD.length ≤ 1048576
  disks : M.disksOk w.fD
  net : w.fNet.length ≤ 1048576
  log : w.fLog.length ≤ 1048576
theorem worldOk {w : World} (hw : World.wf w) (hb : World.bulk w ≤ 1048576) : M.WorldOk w := by
  have h0 := hb
  unfold World.bulk at h0
  have h1 := bulkL_len (f := Image.bulk) w.fOld
  have h2 := bulkL_len (f := Node.bulk) w.fN
  have h3 := bulkL_len (f := Disk.bulk) w.fD
  have h4 := bulkL_len (f := Packet.bulk) w.fNet
  obtain ⟨_, _, _, h5, _⟩ := hw
  have e1 : Tree.bulk w.fT = w.fT.fUp.length := rfl
  refine ⟨by omega, by omega, by omega, imgs_wf h5 (by omega), by omega, fun x hx => ?_, by omega, fun x hx => ?_, by omega, by omega⟩
  · have h6 := bulkL_mem (f := Node.bulk) hx
    unfold Node.bulk Manifest.bulk at h6
    have h7 : Node.bulk x = x.fMan.fSums.length + (x.fBld.fBuf.length + x.fKids.length) := rfl
    have h8 := bulkL_mem (f := Node.bulk) hx
    omega
  · have h8 := bulkL_mem (f := Disk.bulk) hx
    have h7 : Disk.bulk x = x.fA.length + (x.fB.length + bulkL Put.bulk x.fP) := rfl
    have h9 := bulkL_len (f := Put.bulk) x.fP
    omega
structure M.DOk (d : Disk) : Prop where
  a : d.fA.length ≤ 1048576
  b : d.fB.length ≤ 1048576
  p : d.fP.length ≤ 1048576
  puts : ∀ x ∈ d.fP, x.fB.length ≤ 1048576
theorem dok {d : Disk} (h : Disk.bulk d ≤ 1048576) : M.DOk d := by
  have e : Disk.bulk d = d.fA.length + (d.fB.length + bulkL Put.bulk d.fP) := rfl
  have := bulkL_len (f := Put.bulk) d.fP
  refine ⟨by omega, by omega, by omega, fun x hx => ?_⟩
  have h1 : x.fB.length ≤ bulkL Put.bulk d.fP := bulkL_mem (f := Put.bulk) hx
  omega
structure M.DsOk (w : World) : Prop where
  d : w.fD.length ≤ 1048576
  old : w.fOld.length ≤ 1048576
  ok : ∀ x ∈ w.fD, M.DOk x
theorem dsOk {w : World} (h : World.bulk w ≤ 1048576) : M.DsOk w := by
  have h0 := h
  unfold World.bulk at h0
  have h1 := bulkL_len (f := Image.bulk) w.fOld
  have h3 := bulkL_len (f := Disk.bulk) w.fD
  refine ⟨by omega, by omega, fun x hx => dok ?_⟩
  have := bulkL_mem (f := Disk.bulk) hx
  omega
structure M.StOk (w : World) : Prop where
  ds : M.DsOk w
  n : w.fN.length ≤ 1048576
theorem stOk {w : World} (hw : World.wf w) (h : World.bulk w ≤ 1048576) : M.StOk w := ⟨dsOk h, (worldOk hw h).n⟩
def M.isOn (w : World) (k : Nat) : Bool := match w.fN[k]? with | some n => n.fOn | none => false
def M.upIn (w : World) : List Int := ((List.range' 0 w.fN.length).filter (M.isOn w)).map fun (k : Nat) => (k : Int)
theorem wlist_sel {α ρ : Type} {fin : List Int → Option ρ} {body : α → Nat → List Int → (List Int → Option ρ) → Option ρ} (g : Nat → Bool) (p : List α) :
    ∀ (l : List α) (i : Nat) (s : List Int), l = p.drop i → s.length ≤ i → (∀ x i s k, p[i]? = some x → s.length ≤ i → body x i s k = bif g i then k (s ++ [(i : Int)]) else k s) → wlist fin body l i s = fin (s ++ ((List.range' i l.length).filter g).map fun (k : Nat) => (k : Int)) := by
  intro l
  induction l with
  | nil => intro i s _ _ _; simp [wlist]
  | cons x l ih =>
    intro i s h1 h2 h3
    have hx : p[i]? = some x := by have := congrArg List.head? h1; simpa [List.head?_drop] using this.symm
    have hl : l = p.drop (i + 1) := by have := congrArg List.tail h1; simpa [List.tail_drop] using this
    simp only [wlist, List.length_cons, List.range'_succ]
    rw [h3 x i s _ hx h2]
    cases hg : g i with
    | true => simp only [cond_true, List.filter_cons, hg, if_true, List.map_cons]; rw [ih (i + 1) _ hl (by simp; omega) h3]; simp
    | false => simp only [cond_false, List.filter_cons, hg, Bool.false_eq_true, if_false]; rw [ih (i + 1) _ hl (by omega) h3]
theorem isOn_of {w : World} {i : Nat} {x : Node} (h : w.fN[i]? = some x) : M.isOn w i = x.fOn := by unfold M.isOn; rw [h]
theorem getElem?_lt {α : Type} {l : List α} {i : Nat} {x : α} (h : l[i]? = some x) : i < l.length := by
  rcases Nat.lt_or_ge i l.length with h1 | h1
  · exact h1
  · rw [List.getElem?_eq_none h1] at h; cases h
theorem impl_UpIn_eq {u : Nat} (hu : 1099511627776 ≤ u) {w : World} (hn : w.fN.length ≤ 1048576) : impl_UpIn u w = some (M.upIn w) := by
  unfold impl_UpIn impl_World__nodesIn__impl_UpIn_1
  rw [impl_World__nodesIn__impl_UpIn_1_l2_w u w _ u (by omega) (by omega), wlist_sel (M.isOn w) w.fN w.fN 0 [] (by simp) (by simp)]
  · simp [impl_World__nodesIn__impl_UpIn_1_l2_f, impl_World__nodesIn__impl_UpIn_1_j1, M.upIn]
  · intro x i s k hx hs
    have := getElem?_lt hx
    unfold impl_World__nodesIn__impl_UpIn_1_l2_b impl_World__nodesIn__impl_UpIn_1_j3 impl_UpIn_1
    simp only [Option.bind_some, isOn_of hx]
    rw [chk_dec (by simp; omega)]; rfl
theorem spec_UpIn_eq {u : Nat} (hu : 1099511627776 ≤ u) {w : World} (hn : w.fN.length ≤ 1048576) : spec_UpIn u w = some (M.upIn w) := by
  unfold spec_UpIn
  rw [spec_UpIn_l2_w u w _ u (by omega) (by omega), wlist_sel (M.isOn w) w.fN w.fN 0 [] (by simp) (by simp)]
  · simp [spec_UpIn_l2_f, spec_UpIn_j1, M.upIn]
  · intro x i s k hx hs
    have := getElem?_lt hx
    unfold spec_UpIn_l2_b spec_UpIn_j3
    simp only [isOn_of hx]
    rw [chk_dec (by simp; omega)]; rfl
theorem upIn_length (w : World) : (M.upIn w).length ≤ w.fN.length := by
  unfold M.upIn
  rw [List.length_map]
  have := List.length_filter_le (M.isOn w) (List.range' 0 w.fN.length)
  rwa [List.length_range'] at this
theorem chk_of {p : Prop} [Decidable p] (h : p) : chk (decide p) = some () := by rw [decide_eq_true h]; rfl
theorem sz1 (a : UInt8) : (ByteArray.mk #[a]).size = 1 := rfl
def M.isDone (w : World) (i : Nat) : Bool := match w.fN[i]? with | some x => x.fPhase == 5 | none => false
def M.doneIn (w : World) : List Int := ((List.range' 0 w.fN.length).filter (M.isDone w)).map fun (k : Nat) => (k : Int)
theorem isDone_of {w : World} {i : Nat} {x : Node} (h : w.fN[i]? = some x) : M.isDone w i = (x.fPhase == 5) := by unfold M.isDone; rw [h]
theorem impl_DoneIn_eq {u : Nat} (hu : 1099511627776 ≤ u) {w : World} (hn : w.fN.length ≤ 1048576) : impl_DoneIn u w = some (M.doneIn w) := by
  unfold impl_DoneIn impl_World__nodesIn__impl_DoneIn_1
  rw [impl_World__nodesIn__impl_DoneIn_1_l2_w u w _ u (by omega) (by omega), wlist_sel (M.isDone w) w.fN w.fN 0 [] (by simp) (by simp)]
  · simp [impl_World__nodesIn__impl_DoneIn_1_l2_f, impl_World__nodesIn__impl_DoneIn_1_j1, M.doneIn]
  · intro x i s k hx hs
    have := getElem?_lt hx
    unfold impl_World__nodesIn__impl_DoneIn_1_l2_b impl_World__nodesIn__impl_DoneIn_1_j3 impl_DoneIn_1
    simp only [Option.bind_some, isDone_of hx]
    rw [chk_dec (by simp; omega)]; rfl
theorem spec_DoneIn_eq {u : Nat} (hu : 1099511627776 ≤ u) {w : World} (hn : w.fN.length ≤ 1048576) : spec_DoneIn u w = some (M.doneIn w) := by
  unfold spec_DoneIn
  rw [spec_DoneIn_l2_w u w _ u (by omega) (by omega), wlist_sel (M.isDone w) w.fN w.fN 0 [] (by simp) (by simp)]
  · simp [spec_DoneIn_l2_f, spec_DoneIn_j1, M.doneIn]
  · intro x i s k hx hs
    have := getElem?_lt hx
    unfold spec_DoneIn_l2_b spec_DoneIn_j3
    simp only [isDone_of hx]
    rw [chk_dec (by simp; omega)]; rfl
def M.acc (sep : ByteArray) : Nat → ByteArray → List ByteArray → ByteArray
  | _, s, [] => s
  | i, s, t :: ts => M.acc sep (i + 1) ((if i > 0 then s ++ sep else s) ++ t) ts
def M.jn (sep : ByteArray) (ts : List ByteArray) : ByteArray := ⟨(Lib.join (ts.map (·.data.toList)) sep.data.toList).toArray⟩
theorem acc_pos (sep : ByteArray) : ∀ (ts : List ByteArray) (i : Nat) (s : ByteArray), (M.acc sep (i + 1) s ts).data.toList = s.data.toList ++ Lib.joinTail sep.data.toList (ts.map (·.data.toList))
  | [], i, s => by simp [M.acc, Lib.joinTail]
  | t :: ts, i, s => by
    rw [M.acc, acc_pos sep ts, if_pos (by omega), ba_app, ba_app]
    simp [Lib.joinTail]
theorem acc_jn (sep : ByteArray) (ts : List ByteArray) : M.acc sep 0 (ByteArray.mk #[]) ts = M.jn sep ts := by
  refine ba_ext ?_
  unfold M.jn
  cases ts with
  | nil => rfl
  | cons t ts =>
    rw [M.acc, acc_pos, if_neg (by omega), ba_app, List.map_cons, Lib.join_cons]
    simp
theorem sep_size {sep s : ByteArray} {i : Nat} (hs : sep.size ≤ 2) : (if i > 0 then s ++ sep else s).size ≤ s.size + 2 := by
  split
  · rw [ByteArray.size_append]; omega
  · omega
theorem acc_size (sep : ByteArray) {B : Nat} (hs : sep.size ≤ 2) : ∀ (ts : List ByteArray) (i : Nat) (s : ByteArray), (∀ t ∈ ts, t.size ≤ B) → (M.acc sep i s ts).size ≤ s.size + ts.length * (B + 2)
  | [], i, s, _ => by simp [M.acc]
  | t :: ts, i, s, h => by
    have h1 := acc_size sep hs ts (i + 1) ((if i > 0 then s ++ sep else s) ++ t) (fun t ht => h t (by simp [ht]))
    have h2 := h t (by simp)
    rw [ByteArray.size_append] at h1
    have h3 : (if i > 0 then s ++ sep else s).size ≤ s.size + 2 := sep_size hs
    rw [M.acc, List.length_cons, Nat.add_mul]
    omega
theorem jn_size {sep : ByteArray} {B : Nat} (hs : sep.size ≤ 2) {ts : List ByteArray} (h : ∀ t ∈ ts, t.size ≤ B) : (M.jn sep ts).size ≤ ts.length * (B + 2) := by
  rw [← acc_jn]
  have := acc_size sep hs ts 0 (ByteArray.mk #[]) h
  rw [show (ByteArray.mk #[]).size = 0 by rfl] at this
  omega
theorem join_eq {u : Nat} {sep : ByteArray} {B : Nat} (hs : sep.size ≤ 2) {ts : List ByteArray} (h : ∀ t ∈ ts, t.size ≤ B) (hl : ts.length ≤ 2097152) (hB : B ≤ 1000) : strings_Join u ts sep = some (M.jn sep ts) := by
  have h1 := jn_size hs h
  have h2 : ts.length * (B + 2) ≤ 2097152 * 1002 := Nat.mul_le_mul hl (by omega)
  have h3 : (Lib.join (ts.map (·.data.toList)) sep.data.toList).length ≤ 140737488355328 := by
    have e : (M.jn sep ts).size = (Lib.join (ts.map (·.data.toList)) sep.data.toList).length := by simp [M.jn, ByteArray.size]
    omega
  unfold strings_Join
  rw [decide_eq_true h3, decide_eq_true (show ts.length ≤ 140737488355328 by omega)]
  rfl
theorem walk_acc {ρ : Type} {f : ByteArray → Option ρ} {b : Nat → ByteArray → (ByteArray → Option ρ) → Option ρ} {ts : List ByteArray} {sep : ByteArray} {B : Nat} (hs : sep.size ≤ 2) (h : ∀ t ∈ ts, t.size ≤ B) (hl : ts.length ≤ 2097152) (hB : B ≤ 1000)
    (hb : ∀ (i : Nat) (s : ByteArray) (k : ByteArray → Option ρ) (t : ByteArray), ts[i]? = some t → t.size ≤ 1000 → s.size ≤ 4611686018427387904 → b i s k = k ((if i > 0 then s ++ sep else s) ++ t)) :
    ∀ (n i : Nat) (s : ByteArray), i + n = ts.length → s.size ≤ i * 1002 → walk f b n i s = f (M.acc sep i s (ts.drop i))
  | 0, i, s, hi, hz => by rw [List.drop_eq_nil_of_le (by omega)]; rfl
  | n + 1, i, s, hi, hz => by
    have hlt : i < ts.length := by omega
    have ht := h ts[i] (List.getElem_mem hlt)
    rw [List.drop_eq_getElem_cons hlt, walk, hb i s _ ts[i] (List.getElem?_eq_getElem hlt) (by omega) (by omega), M.acc]
    refine walk_acc hs h hl hB hb n (i + 1) _ (by omega) ?_
    rw [ByteArray.size_append]
    have h3 : (if i > 0 then s ++ sep else s).size ≤ s.size + 2 := sep_size hs
    omega
theorem wlist_map {α ρ : Type} {f : List ByteArray → Option ρ} {b : α → Nat → List ByteArray → (List ByteArray → Option ρ) → Option ρ} {g : α → ByteArray} : ∀ (l : List α) (i : Nat) (s : List ByteArray),
    (∀ y ∈ l, ∀ (i : Nat) (s : List ByteArray) (k : List ByteArray → Option ρ), s.length ≤ 2097152 → b y i s k = k (s ++ [g y])) → s.length + l.length ≤ 2097152 → wlist f b l i s = f (s ++ l.map g)
  | [], i, s, _, _ => by simp [wlist]
  | y :: l, i, s, h, hl => by
    rw [List.length_cons] at hl
    rw [wlist, h y (by simp) i s _ (by omega), wlist_map l (i + 1) _ (fun y hy => h y (by simp [hy])) (by rw [List.length_append, List.length_singleton]; omega)]
    simp
theorem chk_row (s : List ByteArray) (t : ByteArray) (h : s.length ≤ 2097152) : chk (decide ((s.length + ([t]).length) * 16 ≤ 140737488355328)) = some () := chk_of (by rw [List.length_singleton]; omega)
def M.ints (l : List Int) : Prop := ∀ n ∈ l, -9223372036854775808 ≤ n ∧ n ≤ 9223372036854775807
def M.numsText (l : List Int) : ByteArray := M.jn (ByteArray.mk #[32]) (l.map M.num)
theorem nums_21 {l : List Int} (h : M.ints l) : ∀ t ∈ l.map M.num, t.size ≤ 21 := fun t ht => by
  obtain ⟨n, hn, rfl⟩ := List.mem_map.1 ht
  exact num_size (h n hn).1 (h n hn).2
theorem impl_joined_eq {u : Nat} (hu : 1099511627776 ≤ u) {l : List Int} (h : M.ints l) (hl : l.length ≤ 2097152) : impl_joined u l = some (M.numsText l) := by
  unfold impl_joined
  rw [impl_joined_l2_w u l _ u (by omega) (by omega), wlist_map (g := M.num) l 0 []]
  · unfold impl_joined_l2_f impl_joined_j1
    rw [join_eq (B := 21) (by rw [sz1]; omega) (by simpa using nums_21 h) (by simpa using hl) (by omega)]
    simp [M.numsText]
  · intro y hy i s k hs
    unfold impl_joined_l2_b
    rw [impl_NumText_eq (h y hy).1 (h y hy).2, Option.bind_some, chk_row s _ hs]
    rfl
  · simpa using hl
theorem spec_l28Ints_eq {u : Nat} (hu : 1099511627776 ≤ u) {l : List Int} (h : M.ints l) (hl : l.length ≤ 2097152) : spec_l28Ints u l = some (M.numsText l) := by
  unfold spec_l28Ints
  rw [spec_l28Ints_l2_w u l _ u (by omega) (by omega), Int.toNat_natCast,
    walk_acc (ts := l.map M.num) (sep := ByteArray.mk #[32]) (B := 21) (by rw [sz1]; omega) (nums_21 h) (by simpa using hl) (by omega) ?_ l.length 0 _ (by simp) (Nat.zero_le _), List.drop_zero, acc_jn]
  · rfl
  · intro i s k t ht h1 h2
    rw [List.getElem?_map, Option.map_eq_some_iff] at ht
    obtain ⟨n, hn, rfl⟩ := ht
    have hb := h n (List.mem_of_getElem? hn)
    have hj : ∀ s : ByteArray, s.size ≤ 4611686018427387906 → spec_l28Ints_j3 u (fun z0 z1 z2 => k z1) l s (i : Int) = k (s ++ M.num n) := fun s hs => by
      unfold spec_l28Ints_j3
      rw [idx_lit l i hn, Option.bind_some, spec_NumText_eq hu hb.1 hb.2, Option.bind_some, chk_of (by omega)]
      rfl
    unfold spec_l28Ints_l2_b
    by_cases hi : i > 0
    · have hi' : (i : Int) > 0 := by omega
      rw [decide_eq_true hi', cond_true, if_pos hi, chk_of (by rw [sz1]; omega), Option.bind_some, hj _ (by rw [ByteArray.size_append, sz1]; omega)]
    · have hi' : ¬ (i : Int) > 0 := by omega
      rw [decide_eq_false hi', cond_false, if_neg hi, hj _ (by omega)]
theorem doneIn_length (w : World) : (M.doneIn w).length ≤ w.fN.length := by
  unfold M.doneIn
  rw [List.length_map]
  exact Nat.le_trans (List.length_filter_le _ _) (by simp)
theorem CountText_same {u : Nat} (hu : 1099511627776 ≤ u) {p0 : World} (w0 : World.wf p0) (b0 : World.bulk p0 ≤ 1048576) : ∃ v, spec_CountText u p0 = some v ∧ impl_CountText u p0 = some v := by
  have hn := (stOk w0 b0).n
  have ho := worldOk w0 b0
  unfold spec_CountText impl_CountText spec_Counts impl_Counts
  rw [spec_UpIn_eq hu hn, impl_UpIn_eq hu hn]
  simp only [Option.bind_some]
  rw [spec_DoneIn_eq hu hn, impl_DoneIn_eq hu hn]
  simp only [Option.bind_some]
  have h1 : (M.upIn p0).length ≤ 1048576 := Nat.le_trans (upIn_length p0) hn
  have h2 : (M.doneIn p0).length ≤ 1048576 := Nat.le_trans (doneIn_length p0) hn
  have h3 := ho.net
  have h4 := ho.log
  have h5 : wInt .i64 p0.fLost := w0.2.2.2.2.2.2.2.2.1
  have hi : M.ints [(p0.fNet.length : Int), (p0.fLog.length : Int), p0.fLost, ((M.upIn p0).length : Int), ((M.doneIn p0).length : Int)] := by
    obtain ⟨l0, l1⟩ := i64_b h5
    intro n hn
    simp only [List.mem_cons, List.not_mem_nil, or_false] at hn
    rcases hn with rfl | rfl | rfl | rfl | rfl <;> omega
  rw [spec_l28Ints_eq hu hi (by simp), impl_joined_eq hu hi (by simp)]
  exact ⟨_, rfl, rfl⟩
theorem CountText_law (p0 : World) (h : World.wf p0 ∧ True) : laws_FnExactCountText 1099511627776 p0 = some true := by
  obtain ⟨w0, _⟩ := h
  have hu : 1099511627776 ≤ 1099511627776 := Nat.le_refl _
  unfold laws_FnExactCountText
  rw [laws_szWorld_eq hu (x := p0) (n := 1048576) (by omega) (by omega) w0]
  simp only [Option.bind_some]
  by_cases b0 : ((World.bulk p0 : Nat) : Int) ≤ 1048576
  · have c0 : ¬ (1048576 - ((World.bulk p0 : Nat) : Int) < 0) := by omega
    rw [leftI_pos b0]
    simp only [c0, decide_false, cond_false]
    obtain ⟨v, e1, e2⟩ := CountText_same hu w0 (show _ ≤ 1048576 by omega)
    simp only [laws_toWorld_eq hu (x := p0) (by omega), laws_eqWorld_eq hu (x := p0) (by omega), e1, e2, Option.bind_some, bne_self_eq_false, beq_self_eq_true, Bool.not_true, cond_false]
  · rw [leftI_neg b0]; rfl
end Go.Tm.Pu
