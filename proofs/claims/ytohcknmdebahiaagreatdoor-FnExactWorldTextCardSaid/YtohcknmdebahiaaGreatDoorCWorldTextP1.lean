/- Plain laws of the functions. -/
import Derived.Test.YtohcknmdebahiaaGreatDoorCWorldTextD
import Derived.Test.YtohcknmdebahiaaGreatDoorPu2
set_option linter.unusedVariables false
set_option linter.unusedSimpArgs false
namespace Go.Tm.Pu
open Go.Tm
theorem laws_szByteS_eq {u : Nat} (hu : 1099511627776 ≤ u) {x : List Int} {n : Int} (h0 : 0 ≤ n) (h1 : n ≤ 1048576) (hw : (wSl (wInt .u8)) x) : laws_szByteS u x n = some (leftI n x.length) := left_len h0 h1 hw.1
theorem laws_toByteS_eq {u : Nat} (hu : 1099511627776 ≤ u) {x : List Int} (h : x.length ≤ 68719476736) : laws_toByteS u x = some x := by
  have hlen : x.length ≤ 68719476736 := by omega
  unfold laws_toByteS
  rw [chk_len, chk_dec (by rw [Int.toNat_natCast]; omega)]
  simp only [Option.bind_some, Int.toNat_natCast]
  rw [laws_toByteS_l2_w u x _ u (by omega) (by omega), wlist_copy0]
  · rfl
  · intro y i s k hx hi
    unfold laws_toByteS_l2_b
    rw [idx_nat, List.getElem?_eq_getElem hi]; simp
theorem laws_eqByteS_eq {u : Nat} (hu : 1099511627776 ≤ u) {x : List Int} (h : x.length ≤ 68719476736) : laws_eqByteS u x x = some true := by
  have hlen : x.length ≤ 68719476736 := by omega
  unfold laws_eqByteS
  simp only [bne_self_eq_false, cond_false]
  rw [laws_eqByteS_l2_w u x x () u (by omega) (by omega), wlist_all (xs := x) _ x 0 (by simp)]
  · rfl
  · intro y i k hx
    unfold laws_eqByteS_l2_b
    rw [idx_nat, hx]; simp
theorem laws_toRecord_eq (u : Nat) (x : Record) : laws_toRecord u x = some x := by
  unfold laws_toRecord
  rfl
theorem laws_eqRecord_eq (u : Nat) (x : Record) : laws_eqRecord u x x = some true := by
  unfold laws_eqRecord
  simp []
def Put.bulk (x : Put) : Nat := x.fB.length
theorem laws_szPut_eq {u : Nat} (hu : 1099511627776 ≤ u) {x : Put} {n : Int} (h0 : 0 ≤ n) (h1 : n ≤ 1048576) (hw : Put.wf x) : laws_szPut u x n = some (leftI n (Put.bulk x)) := by
  unfold laws_szPut Put.bulk
  rw [laws_szByteS_eq hu h0 h1 hw.2.2.1]
  simp only [Option.bind_some]
  exact left_last
theorem laws_toPut_eq {u : Nat} (hu : 1099511627776 ≤ u) {x : Put} (h : Put.bulk x ≤ 68719476736) : laws_toPut u x = some x := by
  unfold Put.bulk at h
  unfold laws_toPut
  rw [laws_toByteS_eq hu (by omega), laws_toRecord_eq u _]; rfl
theorem laws_eqPut_eq {u : Nat} (hu : 1099511627776 ≤ u) {x : Put} (h : Put.bulk x ≤ 68719476736) : laws_eqPut u x x = some true := by
  unfold Put.bulk at h
  unfold laws_eqPut
  simp [laws_eqByteS_eq hu (x := x.fB) (by omega), laws_eqRecord_eq]
theorem laws_toKid_eq (u : Nat) (x : Kid) : laws_toKid u x = some x := by
  unfold laws_toKid
  rfl
theorem laws_eqKid_eq (u : Nat) (x : Kid) : laws_eqKid u x x = some true := by
  unfold laws_eqKid
  simp []
theorem laws_toSum_eq (u : Nat) (x : Sum) : laws_toSum u x = some x := by
  unfold laws_toSum
  rfl
theorem laws_eqSum_eq (u : Nat) (x : Sum) : laws_eqSum u x x = some true := by
  unfold laws_eqSum
  simp []
theorem laws_szIntS_eq {u : Nat} (hu : 1099511627776 ≤ u) {x : List Int} {n : Int} (h0 : 0 ≤ n) (h1 : n ≤ 1048576) (hw : (wSl (wInt .i64)) x) : laws_szIntS u x n = some (leftI n x.length) := left_len h0 h1 hw.1
theorem laws_toIntS_eq {u : Nat} (hu : 1099511627776 ≤ u) {x : List Int} (h : x.length ≤ 68719476736) : laws_toIntS u x = some x := by
  have hlen : x.length ≤ 68719476736 := by omega
  unfold laws_toIntS
  rw [chk_len, chk_dec (by rw [Int.toNat_natCast]; omega)]
  simp only [Option.bind_some, Int.toNat_natCast]
  rw [laws_toIntS_l2_w u x _ u (by omega) (by omega), wlist_copy0]
  · rfl
  · intro y i s k hx hi
    unfold laws_toIntS_l2_b
    rw [idx_nat, List.getElem?_eq_getElem hi]; simp
theorem laws_eqIntS_eq {u : Nat} (hu : 1099511627776 ≤ u) {x : List Int} (h : x.length ≤ 68719476736) : laws_eqIntS u x x = some true := by
  have hlen : x.length ≤ 68719476736 := by omega
  unfold laws_eqIntS
  simp only [bne_self_eq_false, cond_false]
  rw [laws_eqIntS_l2_w u x x () u (by omega) (by omega), wlist_all (xs := x) _ x 0 (by simp)]
  · rfl
  · intro y i k hx
    unfold laws_eqIntS_l2_b
    rw [idx_nat, hx]; simp
def Tree.bulk (x : Tree) : Nat := x.fUp.length
theorem laws_szTree_eq {u : Nat} (hu : 1099511627776 ≤ u) {x : Tree} {n : Int} (h0 : 0 ≤ n) (h1 : n ≤ 1048576) (hw : Tree.wf x) : laws_szTree u x n = some (leftI n (Tree.bulk x)) := by
  unfold laws_szTree Tree.bulk
  rw [laws_szIntS_eq hu h0 h1 hw.1]
  simp only [Option.bind_some]
  exact left_last
theorem laws_toTree_eq {u : Nat} (hu : 1099511627776 ≤ u) {x : Tree} (h : Tree.bulk x ≤ 68719476736) : laws_toTree u x = some x := by
  unfold Tree.bulk at h
  unfold laws_toTree
  rw [laws_toIntS_eq hu (by omega)]; rfl
theorem laws_eqTree_eq {u : Nat} (hu : 1099511627776 ≤ u) {x : Tree} (h : Tree.bulk x ≤ 68719476736) : laws_eqTree u x x = some true := by
  unfold Tree.bulk at h
  unfold laws_eqTree
  simp [laws_eqIntS_eq hu (x := x.fUp) (by omega)]
theorem laws_toConf_eq (u : Nat) (x : Conf) : laws_toConf u x = some x := by
  unfold laws_toConf
  rfl
theorem laws_eqConf_eq (u : Nat) (x : Conf) : laws_eqConf u x x = some true := by
  unfold laws_eqConf
  simp []
theorem laws_szSumS_eq {u : Nat} (hu : 1099511627776 ≤ u) {x : List Sum} {n : Int} (h0 : 0 ≤ n) (h1 : n ≤ 1048576) (hw : (wSl Sum.wf) x) : laws_szSumS u x n = some (leftI n x.length) := left_len h0 h1 hw.1
theorem laws_toSumS_eq {u : Nat} (hu : 1099511627776 ≤ u) {x : List Sum} (h : x.length ≤ 68719476736) : laws_toSumS u x = some x := by
  have hlen : x.length ≤ 68719476736 := by omega
  unfold laws_toSumS
  rw [chk_len, chk_dec (by rw [Int.toNat_natCast]; omega)]
  simp only [Option.bind_some, Int.toNat_natCast]
  rw [laws_toSumS_l2_w u x _ u (by omega) (by omega), wlist_copy0]
  · rfl
  · intro y i s k hx hi
    unfold laws_toSumS_l2_b
    rw [laws_toSum_eq u _]
    rw [idx_nat, List.getElem?_eq_getElem hi]; simp
theorem laws_eqSumS_eq {u : Nat} (hu : 1099511627776 ≤ u) {x : List Sum} (h : x.length ≤ 68719476736) : laws_eqSumS u x x = some true := by
  have hlen : x.length ≤ 68719476736 := by omega
  unfold laws_eqSumS
  simp only [bne_self_eq_false, cond_false]
  rw [laws_eqSumS_l2_w u x x () u (by omega) (by omega), wlist_all (xs := x) _ x 0 (by simp)]
  · rfl
  · intro y i k hx
    unfold laws_eqSumS_l2_b
    rw [idx_nat, hx]
    simp only [Option.bind_some]
    rw [laws_eqSum_eq]; simp
def Manifest.bulk (x : Manifest) : Nat := x.fSums.length
theorem laws_szManifest_eq {u : Nat} (hu : 1099511627776 ≤ u) {x : Manifest} {n : Int} (h0 : 0 ≤ n) (h1 : n ≤ 1048576) (hw : Manifest.wf x) : laws_szManifest u x n = some (leftI n (Manifest.bulk x)) := by
  unfold laws_szManifest Manifest.bulk
  rw [laws_szSumS_eq hu h0 h1 hw.2.2.2.1]
  simp only [Option.bind_some]
  exact left_last
theorem laws_toManifest_eq {u : Nat} (hu : 1099511627776 ≤ u) {x : Manifest} (h : Manifest.bulk x ≤ 68719476736) : laws_toManifest u x = some x := by
  unfold Manifest.bulk at h
  unfold laws_toManifest
  rw [laws_toSumS_eq hu (by omega)]; rfl
theorem laws_eqManifest_eq {u : Nat} (hu : 1099511627776 ≤ u) {x : Manifest} (h : Manifest.bulk x ≤ 68719476736) : laws_eqManifest u x x = some true := by
  unfold Manifest.bulk at h
  unfold laws_eqManifest
  simp [laws_eqSumS_eq hu (x := x.fSums) (by omega)]
def Build.bulk (x : Build) : Nat := x.fBuf.length
theorem laws_szBuild_eq {u : Nat} (hu : 1099511627776 ≤ u) {x : Build} {n : Int} (h0 : 0 ≤ n) (h1 : n ≤ 1048576) (hw : Build.wf x) : laws_szBuild u x n = some (leftI n (Build.bulk x)) := by
  unfold laws_szBuild Build.bulk
  rw [laws_szByteS_eq hu h0 h1 hw.2.1]
  simp only [Option.bind_some]
  exact left_last
theorem laws_toBuild_eq {u : Nat} (hu : 1099511627776 ≤ u) {x : Build} (h : Build.bulk x ≤ 68719476736) : laws_toBuild u x = some x := by
  unfold Build.bulk at h
  unfold laws_toBuild
  rw [laws_toByteS_eq hu (by omega)]; rfl
theorem laws_eqBuild_eq {u : Nat} (hu : 1099511627776 ≤ u) {x : Build} (h : Build.bulk x ≤ 68719476736) : laws_eqBuild u x x = some true := by
  unfold Build.bulk at h
  unfold laws_eqBuild
  simp [laws_eqByteS_eq hu (x := x.fBuf) (by omega)]
theorem laws_szKidS_eq {u : Nat} (hu : 1099511627776 ≤ u) {x : List Kid} {n : Int} (h0 : 0 ≤ n) (h1 : n ≤ 1048576) (hw : (wSl Kid.wf) x) : laws_szKidS u x n = some (leftI n x.length) := left_len h0 h1 hw.1
theorem laws_toKidS_eq {u : Nat} (hu : 1099511627776 ≤ u) {x : List Kid} (h : x.length ≤ 68719476736) : laws_toKidS u x = some x := by
  have hlen : x.length ≤ 68719476736 := by omega
  unfold laws_toKidS
  rw [chk_len, chk_dec (by rw [Int.toNat_natCast]; omega)]
  simp only [Option.bind_some, Int.toNat_natCast]
  rw [laws_toKidS_l2_w u x _ u (by omega) (by omega), wlist_copy0]
  · rfl
  · intro y i s k hx hi
    unfold laws_toKidS_l2_b
    rw [laws_toKid_eq u _]
    rw [idx_nat, List.getElem?_eq_getElem hi]; simp
theorem laws_eqKidS_eq {u : Nat} (hu : 1099511627776 ≤ u) {x : List Kid} (h : x.length ≤ 68719476736) : laws_eqKidS u x x = some true := by
  have hlen : x.length ≤ 68719476736 := by omega
  unfold laws_eqKidS
  simp only [bne_self_eq_false, cond_false]
  rw [laws_eqKidS_l2_w u x x () u (by omega) (by omega), wlist_all (xs := x) _ x 0 (by simp)]
  · rfl
  · intro y i k hx
    unfold laws_eqKidS_l2_b
    rw [idx_nat, hx]
    simp only [Option.bind_some]
    rw [laws_eqKid_eq]; simp
def Node.bulk (x : Node) : Nat := Manifest.bulk x.fMan + (Build.bulk x.fBld + (x.fKids.length))
theorem laws_szNode_eq {u : Nat} (hu : 1099511627776 ≤ u) {x : Node} {n : Int} (h0 : 0 ≤ n) (h1 : n ≤ 1048576) (hw : Node.wf x) : laws_szNode u x n = some (leftI n (Node.bulk x)) := by
  unfold laws_szNode Node.bulk
  rw [laws_szManifest_eq hu h0 h1 hw.2.2.2.1]
  simp only [Option.bind_some]
  exact left_step (c := Build.bulk x.fBld + (x.fKids.length)) (f := fun r => (laws_szBuild u x.fBld r).bind fun r1 => bif decide (r1 < 0) then some (-1) else ((laws_szKidS u x.fKids r1).bind fun r2 => bif decide (r2 < 0) then some (-1) else (some r2))) (fun v0 h2v0 h3v0 => by rw [laws_szBuild_eq hu h2v0 (by omega) hw.2.2.2.2.1]; simp only [Option.bind_some]; exact left_step (c := x.fKids.length) (f := fun r => (laws_szKidS u x.fKids r).bind fun r2 => bif decide (r2 < 0) then some (-1) else (some r2)) (fun v1 h2v1 h3v1 => by rw [laws_szKidS_eq hu h2v1 (by omega) hw.2.2.2.2.2.2.1]; simp only [Option.bind_some]; exact left_last) h2v0) h0
theorem laws_toNode_eq {u : Nat} (hu : 1099511627776 ≤ u) {x : Node} (h : Node.bulk x ≤ 68719476736) : laws_toNode u x = some x := by
  unfold Node.bulk at h
  unfold laws_toNode
  rw [laws_toManifest_eq hu (by omega), laws_toBuild_eq hu (by omega), laws_toKidS_eq hu (by omega)]; rfl
theorem laws_eqNode_eq {u : Nat} (hu : 1099511627776 ≤ u) {x : Node} (h : Node.bulk x ≤ 68719476736) : laws_eqNode u x x = some true := by
  unfold Node.bulk at h
  unfold laws_eqNode
  simp [laws_eqManifest_eq hu (x := x.fMan) (by omega), laws_eqBuild_eq hu (x := x.fBld) (by omega), laws_eqKidS_eq hu (x := x.fKids) (by omega)]
theorem laws_szPutS_eq {u : Nat} (hu : 1099511627776 ≤ u) {x : List Put} {n : Int} (h0 : 0 ≤ n) (h1 : n ≤ 1048576) (hw : (wSl Put.wf) x) : laws_szPutS u x n = some (leftI n (bulkL Put.bulk x)) :=
  left_list (c := sumL Put.bulk x) (f := fun r => laws_szPutS_l2 u u x r 0) (fun hm r h2 h3 => by
    rw [laws_szPutS_l2_w u x r u (by omega) (by omega)]
    exact wlist_sz (f := Put.bulk) (fun s => rfl) (fun y i s k hy hs0 hs1 => by unfold laws_szPutS_l2_b; rw [laws_szPut_eq hu hs0 hs1 (hw.2 y hy)]; rfl) x 0 r (fun _ h => h) h2 (by omega)) h0 h1 hw.1
theorem laws_toPutS_eq {u : Nat} (hu : 1099511627776 ≤ u) {x : List Put} (h : Pu.bulkL Put.bulk x ≤ 68719476736) : laws_toPutS u x = some x := by
  have hlen : x.length ≤ 68719476736 := by have := bulkL_len (f := Put.bulk) x; omega
  unfold laws_toPutS
  rw [chk_len, chk_dec (by rw [Int.toNat_natCast]; omega)]
  simp only [Option.bind_some, Int.toNat_natCast]
  rw [laws_toPutS_l2_w u x _ u (by omega) (by omega), wlist_copy0]
  · rfl
  · intro y i s k hx hi
    unfold laws_toPutS_l2_b
    rw [laws_toPut_eq hu (Nat.le_trans (bulkL_mem (f := Put.bulk) hx) h)]
    rw [idx_nat, List.getElem?_eq_getElem hi]; simp
theorem laws_eqPutS_eq {u : Nat} (hu : 1099511627776 ≤ u) {x : List Put} (h : Pu.bulkL Put.bulk x ≤ 68719476736) : laws_eqPutS u x x = some true := by
  have hlen : x.length ≤ 68719476736 := by have := bulkL_len (f := Put.bulk) x; omega
  unfold laws_eqPutS
  simp only [bne_self_eq_false, cond_false]
  rw [laws_eqPutS_l2_w u x x () u (by omega) (by omega), wlist_all (xs := x) _ x 0 (by simp)]
  · rfl
  · intro y i k hx
    unfold laws_eqPutS_l2_b
    rw [idx_nat, hx]
    simp only [Option.bind_some]
    rw [laws_eqPut_eq hu (Nat.le_trans (bulkL_mem (f := Put.bulk) (List.mem_of_getElem? hx)) h)]; simp
def Disk.bulk (x : Disk) : Nat := x.fA.length + (x.fB.length + (Pu.bulkL Put.bulk x.fP))
theorem laws_szDisk_eq {u : Nat} (hu : 1099511627776 ≤ u) {x : Disk} {n : Int} (h0 : 0 ≤ n) (h1 : n ≤ 1048576) (hw : Disk.wf x) : laws_szDisk u x n = some (leftI n (Disk.bulk x)) := by
  unfold laws_szDisk Disk.bulk
  rw [laws_szByteS_eq hu h0 h1 hw.1]
  simp only [Option.bind_some]
  exact left_step (c := x.fB.length + (Pu.bulkL Put.bulk x.fP)) (f := fun r => (laws_szByteS u x.fB r).bind fun r1 => bif decide (r1 < 0) then some (-1) else ((laws_szPutS u x.fP r1).bind fun r2 => bif decide (r2 < 0) then some (-1) else (some r2))) (fun v0 h2v0 h3v0 => by rw [laws_szByteS_eq hu h2v0 (by omega) hw.2.1]; simp only [Option.bind_some]; exact left_step (c := Pu.bulkL Put.bulk x.fP) (f := fun r => (laws_szPutS u x.fP r).bind fun r2 => bif decide (r2 < 0) then some (-1) else (some r2)) (fun v1 h2v1 h3v1 => by rw [laws_szPutS_eq hu h2v1 (by omega) hw.2.2.2.1]; simp only [Option.bind_some]; exact left_last) h2v0) h0
theorem laws_toDisk_eq {u : Nat} (hu : 1099511627776 ≤ u) {x : Disk} (h : Disk.bulk x ≤ 68719476736) : laws_toDisk u x = some x := by
  unfold Disk.bulk at h
  unfold laws_toDisk
  rw [laws_toByteS_eq hu (by omega), laws_toByteS_eq hu (by omega), laws_toRecord_eq u _, laws_toPutS_eq hu (by omega)]; rfl
theorem laws_eqDisk_eq {u : Nat} (hu : 1099511627776 ≤ u) {x : Disk} (h : Disk.bulk x ≤ 68719476736) : laws_eqDisk u x x = some true := by
  unfold Disk.bulk at h
  unfold laws_eqDisk
  simp [laws_eqByteS_eq hu (x := x.fA) (by omega), laws_eqByteS_eq hu (x := x.fB) (by omega), laws_eqRecord_eq, laws_eqPutS_eq hu (x := x.fP) (by omega)]
theorem laws_toSent_eq (u : Nat) (x : Sent) : laws_toSent u x = some x := by
  unfold laws_toSent
  rfl
theorem laws_eqSent_eq (u : Nat) (x : Sent) : laws_eqSent u x x = some true := by
  unfold laws_eqSent
  simp []
def Image.bulk (x : Image) : Nat := x.fB.length
theorem laws_szImage_eq {u : Nat} (hu : 1099511627776 ≤ u) {x : Image} {n : Int} (h0 : 0 ≤ n) (h1 : n ≤ 1048576) (hw : Image.wf x) : laws_szImage u x n = some (leftI n (Image.bulk x)) := by
  unfold laws_szImage Image.bulk
  rw [laws_szByteS_eq hu h0 h1 hw.1]
  simp only [Option.bind_some]
  exact left_last
theorem laws_toImage_eq {u : Nat} (hu : 1099511627776 ≤ u) {x : Image} (h : Image.bulk x ≤ 68719476736) : laws_toImage u x = some x := by
  unfold Image.bulk at h
  unfold laws_toImage
  rw [laws_toByteS_eq hu (by omega)]; rfl
theorem laws_eqImage_eq {u : Nat} (hu : 1099511627776 ≤ u) {x : Image} (h : Image.bulk x ≤ 68719476736) : laws_eqImage u x x = some true := by
  unfold Image.bulk at h
  unfold laws_eqImage
  simp [laws_eqByteS_eq hu (x := x.fB) (by omega)]
theorem laws_szImageS_eq {u : Nat} (hu : 1099511627776 ≤ u) {x : List Image} {n : Int} (h0 : 0 ≤ n) (h1 : n ≤ 1048576) (hw : (wSl Image.wf) x) : laws_szImageS u x n = some (leftI n (bulkL Image.bulk x)) :=
  left_list (c := sumL Image.bulk x) (f := fun r => laws_szImageS_l2 u u x r 0) (fun hm r h2 h3 => by
    rw [laws_szImageS_l2_w u x r u (by omega) (by omega)]
    exact wlist_sz (f := Image.bulk) (fun s => rfl) (fun y i s k hy hs0 hs1 => by unfold laws_szImageS_l2_b; rw [laws_szImage_eq hu hs0 hs1 (hw.2 y hy)]; rfl) x 0 r (fun _ h => h) h2 (by omega)) h0 h1 hw.1
theorem laws_toImageS_eq {u : Nat} (hu : 1099511627776 ≤ u) {x : List Image} (h : Pu.bulkL Image.bulk x ≤ 68719476736) : laws_toImageS u x = some x := by
  have hlen : x.length ≤ 68719476736 := by have := bulkL_len (f := Image.bulk) x; omega
  unfold laws_toImageS
  rw [chk_len, chk_dec (by rw [Int.toNat_natCast]; omega)]
  simp only [Option.bind_some, Int.toNat_natCast]
  rw [laws_toImageS_l2_w u x _ u (by omega) (by omega), wlist_copy0]
  · rfl
  · intro y i s k hx hi
    unfold laws_toImageS_l2_b
    rw [laws_toImage_eq hu (Nat.le_trans (bulkL_mem (f := Image.bulk) hx) h)]
    rw [idx_nat, List.getElem?_eq_getElem hi]; simp
theorem laws_eqImageS_eq {u : Nat} (hu : 1099511627776 ≤ u) {x : List Image} (h : Pu.bulkL Image.bulk x ≤ 68719476736) : laws_eqImageS u x x = some true := by
  have hlen : x.length ≤ 68719476736 := by have := bulkL_len (f := Image.bulk) x; omega
  unfold laws_eqImageS
  simp only [bne_self_eq_false, cond_false]
  rw [laws_eqImageS_l2_w u x x () u (by omega) (by omega), wlist_all (xs := x) _ x 0 (by simp)]
  · rfl
  · intro y i k hx
    unfold laws_eqImageS_l2_b
    rw [idx_nat, hx]
    simp only [Option.bind_some]
    rw [laws_eqImage_eq hu (Nat.le_trans (bulkL_mem (f := Image.bulk) (List.mem_of_getElem? hx)) h)]; simp
theorem laws_szNodeS_eq {u : Nat} (hu : 1099511627776 ≤ u) {x : List Node} {n : Int} (h0 : 0 ≤ n) (h1 : n ≤ 1048576) (hw : (wSl Node.wf) x) : laws_szNodeS u x n = some (leftI n (bulkL Node.bulk x)) :=
  left_list (c := sumL Node.bulk x) (f := fun r => laws_szNodeS_l2 u u x r 0) (fun hm r h2 h3 => by
    rw [laws_szNodeS_l2_w u x r u (by omega) (by omega)]
    exact wlist_sz (f := Node.bulk) (fun s => rfl) (fun y i s k hy hs0 hs1 => by unfold laws_szNodeS_l2_b; rw [laws_szNode_eq hu hs0 hs1 (hw.2 y hy)]; rfl) x 0 r (fun _ h => h) h2 (by omega)) h0 h1 hw.1
theorem laws_toNodeS_eq {u : Nat} (hu : 1099511627776 ≤ u) {x : List Node} (h : Pu.bulkL Node.bulk x ≤ 68719476736) : laws_toNodeS u x = some x := by
  have hlen : x.length ≤ 68719476736 := by have := bulkL_len (f := Node.bulk) x; omega
  unfold laws_toNodeS
  rw [chk_len, chk_dec (by rw [Int.toNat_natCast]; omega)]
  simp only [Option.bind_some, Int.toNat_natCast]
  rw [laws_toNodeS_l2_w u x _ u (by omega) (by omega), wlist_copy0]
  · rfl
  · intro y i s k hx hi
    unfold laws_toNodeS_l2_b
    rw [laws_toNode_eq hu (Nat.le_trans (bulkL_mem (f := Node.bulk) hx) h)]
    rw [idx_nat, List.getElem?_eq_getElem hi]; simp
theorem laws_eqNodeS_eq {u : Nat} (hu : 1099511627776 ≤ u) {x : List Node} (h : Pu.bulkL Node.bulk x ≤ 68719476736) : laws_eqNodeS u x x = some true := by
  have hlen : x.length ≤ 68719476736 := by have := bulkL_len (f := Node.bulk) x; omega
  unfold laws_eqNodeS
  simp only [bne_self_eq_false, cond_false]
  rw [laws_eqNodeS_l2_w u x x () u (by omega) (by omega), wlist_all (xs := x) _ x 0 (by simp)]
  · rfl
  · intro y i k hx
    unfold laws_eqNodeS_l2_b
    rw [idx_nat, hx]
    simp only [Option.bind_some]
    rw [laws_eqNode_eq hu (Nat.le_trans (bulkL_mem (f := Node.bulk) (List.mem_of_getElem? hx)) h)]; simp
theorem laws_szDiskS_eq {u : Nat} (hu : 1099511627776 ≤ u) {x : List Disk} {n : Int} (h0 : 0 ≤ n) (h1 : n ≤ 1048576) (hw : (wSl Disk.wf) x) : laws_szDiskS u x n = some (leftI n (bulkL Disk.bulk x)) :=
  left_list (c := sumL Disk.bulk x) (f := fun r => laws_szDiskS_l2 u u x r 0) (fun hm r h2 h3 => by
    rw [laws_szDiskS_l2_w u x r u (by omega) (by omega)]
    exact wlist_sz (f := Disk.bulk) (fun s => rfl) (fun y i s k hy hs0 hs1 => by unfold laws_szDiskS_l2_b; rw [laws_szDisk_eq hu hs0 hs1 (hw.2 y hy)]; rfl) x 0 r (fun _ h => h) h2 (by omega)) h0 h1 hw.1
theorem laws_toDiskS_eq {u : Nat} (hu : 1099511627776 ≤ u) {x : List Disk} (h : Pu.bulkL Disk.bulk x ≤ 68719476736) : laws_toDiskS u x = some x := by
  have hlen : x.length ≤ 68719476736 := by have := bulkL_len (f := Disk.bulk) x; omega
  unfold laws_toDiskS
  rw [chk_len, chk_dec (by rw [Int.toNat_natCast]; omega)]
  simp only [Option.bind_some, Int.toNat_natCast]
  rw [laws_toDiskS_l2_w u x _ u (by omega) (by omega), wlist_copy0]
  · rfl
  · intro y i s k hx hi
    unfold laws_toDiskS_l2_b
    rw [laws_toDisk_eq hu (Nat.le_trans (bulkL_mem (f := Disk.bulk) hx) h)]
    rw [idx_nat, List.getElem?_eq_getElem hi]; simp
theorem laws_eqDiskS_eq {u : Nat} (hu : 1099511627776 ≤ u) {x : List Disk} (h : Pu.bulkL Disk.bulk x ≤ 68719476736) : laws_eqDiskS u x x = some true := by
  have hlen : x.length ≤ 68719476736 := by have := bulkL_len (f := Disk.bulk) x; omega
  unfold laws_eqDiskS
  simp only [bne_self_eq_false, cond_false]
  rw [laws_eqDiskS_l2_w u x x () u (by omega) (by omega), wlist_all (xs := x) _ x 0 (by simp)]
  · rfl
  · intro y i k hx
    unfold laws_eqDiskS_l2_b
    rw [idx_nat, hx]
    simp only [Option.bind_some]
    rw [laws_eqDisk_eq hu (Nat.le_trans (bulkL_mem (f := Disk.bulk) (List.mem_of_getElem? hx)) h)]; simp
def Packet.bulk (x : Packet) : Nat := x.fB.length
theorem laws_szPacket_eq {u : Nat} (hu : 1099511627776 ≤ u) {x : Packet} {n : Int} (h0 : 0 ≤ n) (h1 : n ≤ 1048576) (hw : Packet.wf x) : laws_szPacket u x n = some (leftI n (Packet.bulk x)) := by
  unfold laws_szPacket Packet.bulk
  rw [laws_szByteS_eq hu h0 h1 hw.2.2.1]
  simp only [Option.bind_some]
  exact left_last
theorem laws_toPacket_eq {u : Nat} (hu : 1099511627776 ≤ u) {x : Packet} (h : Packet.bulk x ≤ 68719476736) : laws_toPacket u x = some x := by
  unfold Packet.bulk at h
  unfold laws_toPacket
  rw [laws_toByteS_eq hu (by omega)]; rfl
theorem laws_eqPacket_eq {u : Nat} (hu : 1099511627776 ≤ u) {x : Packet} (h : Packet.bulk x ≤ 68719476736) : laws_eqPacket u x x = some true := by
  unfold Packet.bulk at h
  unfold laws_eqPacket
  simp [laws_eqByteS_eq hu (x := x.fB) (by omega)]
theorem laws_szPacketS_eq {u : Nat} (hu : 1099511627776 ≤ u) {x : List Packet} {n : Int} (h0 : 0 ≤ n) (h1 : n ≤ 1048576) (hw : (wSl Packet.wf) x) : laws_szPacketS u x n = some (leftI n (bulkL Packet.bulk x)) :=
  left_list (c := sumL Packet.bulk x) (f := fun r => laws_szPacketS_l2 u u x r 0) (fun hm r h2 h3 => by
    rw [laws_szPacketS_l2_w u x r u (by omega) (by omega)]
    exact wlist_sz (f := Packet.bulk) (fun s => rfl) (fun y i s k hy hs0 hs1 => by unfold laws_szPacketS_l2_b; rw [laws_szPacket_eq hu hs0 hs1 (hw.2 y hy)]; rfl) x 0 r (fun _ h => h) h2 (by omega)) h0 h1 hw.1
theorem laws_toPacketS_eq {u : Nat} (hu : 1099511627776 ≤ u) {x : List Packet} (h : Pu.bulkL Packet.bulk x ≤ 68719476736) : laws_toPacketS u x = some x := by
  have hlen : x.length ≤ 68719476736 := by have := bulkL_len (f := Packet.bulk) x; omega
  unfold laws_toPacketS
  rw [chk_len, chk_dec (by rw [Int.toNat_natCast]; omega)]
  simp only [Option.bind_some, Int.toNat_natCast]
  rw [laws_toPacketS_l2_w u x _ u (by omega) (by omega), wlist_copy0]
  · rfl
  · intro y i s k hx hi
    unfold laws_toPacketS_l2_b
    rw [laws_toPacket_eq hu (Nat.le_trans (bulkL_mem (f := Packet.bulk) hx) h)]
    rw [idx_nat, List.getElem?_eq_getElem hi]; simp
theorem laws_eqPacketS_eq {u : Nat} (hu : 1099511627776 ≤ u) {x : List Packet} (h : Pu.bulkL Packet.bulk x ≤ 68719476736) : laws_eqPacketS u x x = some true := by
  have hlen : x.length ≤ 68719476736 := by have := bulkL_len (f := Packet.bulk) x; omega
  unfold laws_eqPacketS
  simp only [bne_self_eq_false, cond_false]
  rw [laws_eqPacketS_l2_w u x x () u (by omega) (by omega), wlist_all (xs := x) _ x 0 (by simp)]
  · rfl
  · intro y i k hx
    unfold laws_eqPacketS_l2_b
    rw [idx_nat, hx]
    simp only [Option.bind_some]
    rw [laws_eqPacket_eq hu (Nat.le_trans (bulkL_mem (f := Packet.bulk) (List.mem_of_getElem? hx)) h)]; simp
theorem laws_szSentS_eq {u : Nat} (hu : 1099511627776 ≤ u) {x : List Sent} {n : Int} (h0 : 0 ≤ n) (h1 : n ≤ 1048576) (hw : (wSl Sent.wf) x) : laws_szSentS u x n = some (leftI n x.length) := left_len h0 h1 hw.1
theorem laws_toSentS_eq {u : Nat} (hu : 1099511627776 ≤ u) {x : List Sent} (h : x.length ≤ 68719476736) : laws_toSentS u x = some x := by
  have hlen : x.length ≤ 68719476736 := by omega
  unfold laws_toSentS
  rw [chk_len, chk_dec (by rw [Int.toNat_natCast]; omega)]
  simp only [Option.bind_some, Int.toNat_natCast]
  rw [laws_toSentS_l2_w u x _ u (by omega) (by omega), wlist_copy0]
  · rfl
  · intro y i s k hx hi
    unfold laws_toSentS_l2_b
    rw [laws_toSent_eq u _]
    rw [idx_nat, List.getElem?_eq_getElem hi]; simp
theorem laws_eqSentS_eq {u : Nat} (hu : 1099511627776 ≤ u) {x : List Sent} (h : x.length ≤ 68719476736) : laws_eqSentS u x x = some true := by
  have hlen : x.length ≤ 68719476736 := by omega
  unfold laws_eqSentS
  simp only [bne_self_eq_false, cond_false]
  rw [laws_eqSentS_l2_w u x x () u (by omega) (by omega), wlist_all (xs := x) _ x 0 (by simp)]
  · rfl
  · intro y i k hx
    unfold laws_eqSentS_l2_b
    rw [idx_nat, hx]
    simp only [Option.bind_some]
    rw [laws_eqSent_eq]; simp
def World.bulk (x : World) : Nat := Tree.bulk x.fT + (x.fNew.length + (Pu.bulkL Image.bulk x.fOld + (Pu.bulkL Node.bulk x.fN + (Pu.bulkL Disk.bulk x.fD + (Pu.bulkL Packet.bulk x.fNet + (x.fLog.length))))))
theorem laws_szWorld_eq {u : Nat} (hu : 1099511627776 ≤ u) {x : World} {n : Int} (h0 : 0 ≤ n) (h1 : n ≤ 1048576) (hw : World.wf x) : laws_szWorld u x n = some (leftI n (World.bulk x)) := by
  unfold laws_szWorld World.bulk
  rw [laws_szTree_eq hu h0 h1 hw.2.1]
  simp only [Option.bind_some]
  exact left_step (c := x.fNew.length + (Pu.bulkL Image.bulk x.fOld + (Pu.bulkL Node.bulk x.fN + (Pu.bulkL Disk.bulk x.fD + (Pu.bulkL Packet.bulk x.fNet + (x.fLog.length)))))) (f := fun r => (laws_szByteS u x.fNew r).bind fun r1 => bif decide (r1 < 0) then some (-1) else ((laws_szImageS u x.fOld r1).bind fun r2 => bif decide (r2 < 0) then some (-1) else ((laws_szNodeS u x.fN r2).bind fun r3 => bif decide (r3 < 0) then some (-1) else ((laws_szDiskS u x.fD r3).bind fun r4 => bif decide (r4 < 0) then some (-1) else ((laws_szPacketS u x.fNet r4).bind fun r5 => bif decide (r5 < 0) then some (-1) else ((laws_szSentS u x.fLog r5).bind fun r6 => bif decide (r6 < 0) then some (-1) else (some r6))))))) (fun v0 h2v0 h3v0 => by rw [laws_szByteS_eq hu h2v0 (by omega) hw.2.2.1]; simp only [Option.bind_some]; exact left_step (c := Pu.bulkL Image.bulk x.fOld + (Pu.bulkL Node.bulk x.fN + (Pu.bulkL Disk.bulk x.fD + (Pu.bulkL Packet.bulk x.fNet + (x.fLog.length))))) (f := fun r => (laws_szImageS u x.fOld r).bind fun r2 => bif decide (r2 < 0) then some (-1) else ((laws_szNodeS u x.fN r2).bind fun r3 => bif decide (r3 < 0) then some (-1) else ((laws_szDiskS u x.fD r3).bind fun r4 => bif decide (r4 < 0) then some (-1) else ((laws_szPacketS u x.fNet r4).bind fun r5 => bif decide (r5 < 0) then some (-1) else ((laws_szSentS u x.fLog r5).bind fun r6 => bif decide (r6 < 0) then some (-1) else (some r6)))))) (fun v1 h2v1 h3v1 => by rw [laws_szImageS_eq hu h2v1 (by omega) hw.2.2.2.1]; simp only [Option.bind_some]; exact left_step (c := Pu.bulkL Node.bulk x.fN + (Pu.bulkL Disk.bulk x.fD + (Pu.bulkL Packet.bulk x.fNet + (x.fLog.length)))) (f := fun r => (laws_szNodeS u x.fN r).bind fun r3 => bif decide (r3 < 0) then some (-1) else ((laws_szDiskS u x.fD r3).bind fun r4 => bif decide (r4 < 0) then some (-1) else ((laws_szPacketS u x.fNet r4).bind fun r5 => bif decide (r5 < 0) then some (-1) else ((laws_szSentS u x.fLog r5).bind fun r6 => bif decide (r6 < 0) then some (-1) else (some r6))))) (fun v2 h2v2 h3v2 => by rw [laws_szNodeS_eq hu h2v2 (by omega) hw.2.2.2.2.1]; simp only [Option.bind_some]; exact left_step (c := Pu.bulkL Disk.bulk x.fD + (Pu.bulkL Packet.bulk x.fNet + (x.fLog.length))) (f := fun r => (laws_szDiskS u x.fD r).bind fun r4 => bif decide (r4 < 0) then some (-1) else ((laws_szPacketS u x.fNet r4).bind fun r5 => bif decide (r5 < 0) then some (-1) else ((laws_szSentS u x.fLog r5).bind fun r6 => bif decide (r6 < 0) then some (-1) else (some r6)))) (fun v3 h2v3 h3v3 => by rw [laws_szDiskS_eq hu h2v3 (by omega) hw.2.2.2.2.2.1]; simp only [Option.bind_some]; exact left_step (c := Pu.bulkL Packet.bulk x.fNet + (x.fLog.length)) (f := fun r => (laws_szPacketS u x.fNet r).bind fun r5 => bif decide (r5 < 0) then some (-1) else ((laws_szSentS u x.fLog r5).bind fun r6 => bif decide (r6 < 0) then some (-1) else (some r6))) (fun v4 h2v4 h3v4 => by rw [laws_szPacketS_eq hu h2v4 (by omega) hw.2.2.2.2.2.2.1]; simp only [Option.bind_some]; exact left_step (c := x.fLog.length) (f := fun r => (laws_szSentS u x.fLog r).bind fun r6 => bif decide (r6 < 0) then some (-1) else (some r6)) (fun v5 h2v5 h3v5 => by rw [laws_szSentS_eq hu h2v5 (by omega) hw.2.2.2.2.2.2.2.1]; simp only [Option.bind_some]; exact left_last) h2v4) h2v3) h2v2) h2v1) h2v0) h0
theorem laws_toWorld_eq {u : Nat} (hu : 1099511627776 ≤ u) {x : World} (h : World.bulk x ≤ 68719476736) : laws_toWorld u x = some x := by
  unfold World.bulk at h
  unfold laws_toWorld
  rw [laws_toConf_eq u _, laws_toTree_eq hu (by omega), laws_toByteS_eq hu (by omega), laws_toImageS_eq hu (by omega), laws_toNodeS_eq hu (by omega), laws_toDiskS_eq hu (by omega), laws_toPacketS_eq hu (by omega), laws_toSentS_eq hu (by omega)]; rfl
theorem laws_eqWorld_eq {u : Nat} (hu : 1099511627776 ≤ u) {x : World} (h : World.bulk x ≤ 68719476736) : laws_eqWorld u x x = some true := by
  unfold World.bulk at h
  unfold laws_eqWorld
  simp [laws_eqConf_eq, laws_eqTree_eq hu (x := x.fT) (by omega), laws_eqByteS_eq hu (x := x.fNew) (by omega), laws_eqImageS_eq hu (x := x.fOld) (by omega), laws_eqNodeS_eq hu (x := x.fN) (by omega), laws_eqDiskS_eq hu (x := x.fD) (by omega), laws_eqPacketS_eq hu (x := x.fNet) (by omega), laws_eqSentS_eq hu (x := x.fLog) (by omega)]
def M.num (n : Int) : ByteArray := ⟨(Lib.itoa n).toArray⟩
theorem num_size {n : Int} (h0 : -9223372036854775808 ≤ n) (h1 : n ≤ 9223372036854775807) : (M.num n).size ≤ 21 := by
  have := Lib.itoa_length_le n h0 h1
  simpa [M.num, ByteArray.size] using this
theorem itoa_eq {u : Nat} {n : Int} (h0 : -9223372036854775808 ≤ n) (h1 : n ≤ 9223372036854775807) : strconv_Itoa u n = some (M.num n) := by
  unfold strconv_Itoa M.num
  simp [h0, h1]
theorem impl_NumText_eq {u : Nat} {n : Int} (h0 : -9223372036854775808 ≤ n) (h1 : n ≤ 9223372036854775807) : impl_NumText u n = some (M.num n) := by
  unfold impl_NumText
  rw [itoa_eq h0 h1]; rfl
def M.dg (m : Nat) : List UInt8 := if m = 0 then [] else Lib.decDigits m
theorem dg_step {m : Nat} (h : m ≠ 0) : M.dg m = M.dg (m / 10) ++ [UInt8.ofNat (48 + m % 10)] := by
  unfold M.dg
  rw [if_neg h, Lib.decDigits]
  by_cases h10 : m < 10
  · rw [dif_pos h10, if_pos (by omega), Nat.mod_eq_of_lt h10]; rfl
  · rw [dif_neg h10, if_neg (by omega)]
theorem byte_dig (d : Nat) (h : d < 10) : strOfNums [IntKind.wrap .u8 (bAdd .i64 48 (d : Int))] = ByteArray.mk #[UInt8.ofNat (48 + d)] := by
  have : ∀ d : Fin 10, strOfNums [IntKind.wrap .u8 (bAdd .i64 48 (d.val : Int))] = ByteArray.mk #[UInt8.ofNat (48 + d.val)] := by decide
  exact this ⟨d, h⟩
theorem ba_ext {a b : ByteArray} (h : a.data.toList = b.data.toList) : a = b := by
  cases a; cases b
  congr
  exact Array.toList_inj.1 h
theorem ba_app (a b : ByteArray) : (a ++ b).data.toList = a.data.toList ++ b.data.toList := by
  rw [ByteArray.data_append]; simp
theorem num_l2 {u : Nat} (p0 : Int) (sg : Int) (hs : sg = 1 ∨ sg = -1) : ∀ (j m k : Nat) (acc : ByteArray), m < 10 ^ j → m ≤ 9223372036854775808 → (sg = 1 → m ≤ 9223372036854775807) → j < k → acc.size + j ≤ 1000 →
    spec_NumText_l2 u k p0 acc (sg * m) = spec_NumText_j1 u p0 (ByteArray.mk (M.dg m).toArray ++ acc) := by
  have hnil : ∀ acc : ByteArray, ByteArray.mk (M.dg 0).toArray ++ acc = acc := fun acc => ba_ext (by rw [ba_app]; rfl)
  intro j
  induction j with
  | zero =>
    intro m k acc hm _ _ hk _
    obtain rfl : m = 0 := by simpa using hm
    obtain ⟨k, rfl⟩ : ∃ k', k = k' + 1 := ⟨k - 1, by omega⟩
    unfold spec_NumText_l2
    rw [hnil]
    simp
  | succ j ih =>
    intro m k acc hm hr hr1 hk ha
    obtain ⟨k, rfl⟩ : ∃ k', k = k' + 1 := ⟨k - 1, by omega⟩
    by_cases h0 : m = 0
    · subst h0
      unfold spec_NumText_l2
      rw [hnil]
      simp
    have hd : m % 10 < 10 := Nat.mod_lt _ (by omega)
    have hq : bQuo .i64 (sg * (m : Int)) 10 = sg * ((m / 10 : Nat) : Int) := by
      have e : (sg * (m : Int)).tdiv 10 = sg * ((m / 10 : Nat) : Int) := by
        rcases hs with rfl | rfl
        · rw [Int.one_mul, Int.one_mul]; rfl
        · rw [Int.neg_mul, Int.one_mul, Int.neg_mul, Int.one_mul, Int.neg_tdiv]; rfl
      unfold bQuo
      rw [e, wrap_i64] <;> rcases hs with rfl | rfl <;> omega
    have hrm : bRem .i64 (sg * (m : Int)) 10 = sg * ((m % 10 : Nat) : Int) := by
      unfold bRem
      rcases hs with rfl | rfl
      · rw [Int.one_mul, Int.one_mul]; rfl
      · rw [Int.neg_mul, Int.one_mul, Int.neg_mul, Int.one_mul, Int.neg_tmod]; rfl
    have hj3 : spec_NumText_j3 u (fun z0 z1 z2 => spec_NumText_l2 u k z0 z1 z2) p0 acc (sg * (m : Int)) ((m % 10 : Nat) : Int) = spec_NumText_j1 u p0 (ByteArray.mk (M.dg m).toArray ++ acc) := by
      unfold spec_NumText_j3
      rw [byte_dig _ hd, hq]
      have hsz : (ByteArray.mk #[UInt8.ofNat (48 + m % 10)]).size = 1 := rfl
      have hc : decide ((ByteArray.mk #[UInt8.ofNat (48 + m % 10)]).size + acc.size ≤ 9223372036854775807) = true := by rw [hsz]; simp; omega
      rw [hc]
      simp only [chk, if_true, Option.bind_some]
      rw [ih (m / 10) k _ (by rw [Nat.pow_succ] at hm; omega) (by omega) (fun _ => by omega) (by omega) (by rw [ByteArray.size_append, hsz]; omega)]
      congr 1
      refine ba_ext ?_
      rw [ba_app, ba_app, ba_app, dg_step h0]
      simp
    unfold spec_NumText_l2
    have hne : (sg * (m : Int) != 0) = true := by rcases hs with rfl | rfl <;> simp <;> omega
    rw [hne, cond_true, hrm]
    by_cases hneg : sg * ((m % 10 : Nat) : Int) < 0
    · rw [decide_eq_true hneg, cond_true]
      have : bSub .i64 0 (sg * ((m % 10 : Nat) : Int)) = ((m % 10 : Nat) : Int) := by
        rw [bSub_i64] <;> rcases hs with rfl | rfl <;> omega
      rw [this]
      exact hj3
    · rw [decide_eq_false hneg, cond_false]
      have : sg * ((m % 10 : Nat) : Int) = ((m % 10 : Nat) : Int) := by rcases hs with rfl | rfl <;> omega
      rw [this]
      exact hj3
theorem spec_NumText_eq {u : Nat} (hu : 1099511627776 ≤ u) {n : Int} (h0 : -9223372036854775808 ≤ n) (h1 : n ≤ 9223372036854775807) : spec_NumText u n = some (M.num n) := by
  unfold spec_NumText
  by_cases hz : n = 0
  · subst hz
    have : M.num 0 = ByteArray.mk #[48] := by
      unfold M.num Lib.itoa
      rw [if_neg (by omega), show (0 : Int).toNat = 0 by rfl, Lib.decDigits_one (by omega)]
      rfl
    rw [this]; rfl
  rw [beq_eq_false_iff_ne.2 hz, cond_false]
  rcases Int.lt_or_lt_of_ne hz with hl | hl
  · obtain ⟨m, rfl⟩ : ∃ m : Nat, n = -1 * (m : Int) := ⟨n.natAbs, by omega⟩
    rw [num_l2 (-1 * (m : Int)) (-1) (.inr rfl) 19 m u _ (by omega) (by omega) (fun h => by omega) (by omega) (by show 0 + 19 ≤ 1000; omega)]
    unfold spec_NumText_j1
    rw [decide_eq_true hl, cond_true]
    have hm0 : m ≠ 0 := by omega
    have hd : M.dg m = Lib.decDigits m := by unfold M.dg; rw [if_neg hm0]
    have hsz : (ByteArray.mk (M.dg m).toArray ++ ByteArray.mk #[]).size ≤ 21 := by
      have := num_size h0 h1
      have e : M.num (-1 * (m : Int)) = ByteArray.mk (45 :: Lib.decDigits m).toArray := by
        unfold M.num; rw [show (-1 * (m : Int)) = -(m : Int) by omega, Lib.itoa_neg m (by omega)]
      rw [e] at this
      rw [hd, ByteArray.size_append]
      simp only [ByteArray.size, List.size_toArray, List.length_cons] at this ⊢
      simp; omega
    have hc : decide ((ByteArray.mk #[45]).size + (ByteArray.mk (M.dg m).toArray ++ ByteArray.mk #[]).size ≤ 9223372036854775807) = true := by
      have : (ByteArray.mk #[45]).size = 1 := rfl
      rw [this]; simp only [decide_eq_true_eq]; omega
    rw [hc]
    simp only [chk, if_true, Option.bind_some, Option.some.injEq]
    refine ba_ext ?_
    rw [ba_app, ba_app, hd]
    unfold M.num
    rw [show (-1 * (m : Int)) = -(m : Int) by omega, Lib.itoa_neg m (by omega)]
    simp
  · obtain ⟨m, rfl⟩ : ∃ m : Nat, n = 1 * (m : Int) := ⟨n.toNat, by omega⟩
    rw [num_l2 (1 * (m : Int)) 1 (.inl rfl) 19 m u _ (by omega) (by omega) (fun h => by omega) (by omega) (by show 0 + 19 ≤ 1000; omega)]
    unfold spec_NumText_j1
    rw [decide_eq_false (by omega), cond_false]
    have hm0 : m ≠ 0 := by omega
    congr 1
    refine ba_ext ?_
    rw [ba_app]
    unfold M.num M.dg
    rw [if_neg hm0, Int.one_mul, Lib.itoa_nonneg]
    simp
theorem i64_b {n : Int} (h : wInt .i64 n) : -9223372036854775808 ≤ n ∧ n ≤ 9223372036854775807 := h
theorem idx_lit {α : Type} (l : List α) (k : Nat) {v : α} (h : l[k]? = some v) : idx l (k : Int) = some v := by
  unfold idx
  simp [h]
def M.within (n a b : Int) : Bool := decide (a ≤ n) && decide (n ≤ b)
theorem within_t {n a b : Int} (h : M.within n a b = true) : a ≤ n ∧ n ≤ b := by simpa [M.within] using h
theorem impl_within_eq (u : Nat) (n a b : Int) : impl_within u n a b = some (M.within n a b) := by
  unfold impl_within M.within
  by_cases h : a ≤ n <;> simp [h]
theorem spec_l1In_eq (u : Nat) (n a b : Int) : spec_l1In u n a b = some (M.within n a b) := by
  unfold spec_l1In M.within
  by_cases h : a ≤ n <;> simp [h]
def M.isBytes (b : List Int) : Prop := ∀ x ∈ b, 0 ≤ x ∧ x ≤ 255
theorem bAnd127 (a : Int) : bAnd .i64 a 127 = a % 128 := by
  unfold bAnd
  have e : (BitVec.ofInt (IntKind.bits .i64) a &&& BitVec.ofInt (IntKind.bits .i64) 127).toNat = (a % 128).toNat := by
    change (BitVec.ofInt 64 a &&& BitVec.ofInt 64 127).toNat = (a % 128).toNat
    rw [BitVec.toNat_and, BitVec.toNat_ofInt, BitVec.toNat_ofInt, show ((127 : Int) % ((2 ^ 64 : Nat) : Int)).toNat = 2 ^ 7 - 1 by decide, Nat.and_two_pow_sub_one_eq_mod]
    omega
  rw [e]
  exact (wrap_i64 (by omega) (by omega)).trans (by omega)
theorem toNat_ofInt64 {a : Int} (h1 : 0 ≤ a) (h2 : a < 18446744073709551616) : (BitVec.ofInt 64 a).toNat = a.toNat := by
  rw [BitVec.toNat_ofInt]; omega
theorem bAnd_nat {a b : Nat} (h1 : a < 9223372036854775808) (h2 : b < 9223372036854775808) : bAnd .i64 (a : Int) (b : Int) = ((a &&& b : Nat) : Int) := by
  unfold bAnd
  have e : (BitVec.ofInt (IntKind.bits .i64) (a : Int) &&& BitVec.ofInt (IntKind.bits .i64) (b : Int)).toNat = a &&& b := by
    change (BitVec.ofInt 64 (a : Int) &&& BitVec.ofInt 64 (b : Int)).toNat = _
    rw [BitVec.toNat_and, toNat_ofInt64 (by omega) (by omega), toNat_ofInt64 (by omega) (by omega)]; rfl
  rw [e]
  have : a &&& b ≤ a := Nat.and_le_left
  exact wrap_i64 (by omega) (by omega)
theorem bShr_nat {a i : Nat} (h : i ≤ 64) : bShr .i64 (a : Int) (i : Int) = ((a / 2 ^ i : Nat) : Int) := by
  rw [bShr_k .i64 _ i h]; simp
def M.setOk (s : Int) : Bool := M.within s 0 1099511627775
def M.isPlace (i : Int) : Bool := M.within i 0 39
def M.inSet (s i : Int) : Bool := M.setOk s && M.isPlace i && s.toNat.testBit i.toNat
theorem impl_SetOk_eq (u : Nat) (s : Int) : impl_SetOk u s = some (M.setOk s) := by simp [impl_SetOk, impl_within_eq, M.setOk]
theorem spec_SetOk_eq (u : Nat) (s : Int) : spec_SetOk u s = some (M.setOk s) := by simp [spec_SetOk, spec_l1In_eq, M.setOk]
theorem bit_eq {s i : Int} (hs : M.setOk s = true) (hi : M.isPlace i = true) : (bAnd .i64 (bShr .i64 s i) 1 == 1) = s.toNat.testBit i.toNat := by
  have h1 := within_t hs
  have h2 := within_t hi
  obtain ⟨a, rfl⟩ := Int.eq_ofNat_of_zero_le h1.1
  obtain ⟨n, rfl⟩ := Int.eq_ofNat_of_zero_le h2.1
  rw [bShr_nat (by omega)]
  have h3 : a / 2 ^ n ≤ a := Nat.div_le_self a _
  rw [show (1 : Int) = ((1 : Nat) : Int) by rfl, bAnd_nat (by omega) (by omega), Nat.and_one_is_mod]
  simp only [Int.toNat_natCast, Nat.testBit_eq_decide_div_mod_eq]
  generalize a / 2 ^ n = z
  rw [Bool.eq_iff_iff, beq_iff_eq, decide_eq_true_eq]; omega
theorem spec_InSet_eq (u : Nat) (s i : Int) : spec_InSet u s i = some (M.inSet s i) := by
  unfold spec_InSet M.inSet
  simp only [spec_SetOk_eq, spec_l1In_eq, Option.bind_some]
  cases h1 : M.setOk s with
  | false => simp
  | true =>
    change ((bif true then (bif M.isPlace i then _ else _) else _) : Option Bool) = _
    cases h2 : M.isPlace i with
    | false => simp
    | true =>
      have h3 := within_t h2
      simp only [cond_true]
      rw [chk_dec (by omega)]
      simp [bit_eq h1 h2]
theorem bytes_wf {b : List Int} (h : wSl (wInt .u8) b) : M.isBytes b := fun x hx => h.2 x hx
def M.imgsOk (old : List Image) : Prop := ∀ x ∈ old, M.isBytes x.fB ∧ x.fB.length ≤ 1048576
theorem imgs_wf {l : List Image} (h : wSl Image.wf l) (hb : bulkL Image.bulk l ≤ 1048576) : M.imgsOk l := fun x hx => by
  have h1 : x.fB.length ≤ bulkL Image.bulk l := bulkL_mem (f := Image.bulk) hx
  exact ⟨bytes_wf (h.2 x hx).1, by omega⟩
def M.nodesOk (l : List Node) : Prop := ∀ x ∈ l, x.fMan.fSums.length ≤ 1048576 ∧ x.fKids.length ≤ 1048576
def M.disksOk (l : List Disk) : Prop := ∀ x ∈ l, x.fP.length ≤ 1048576
structure M.WorldOk (w : World) : Prop where
  up : w.fT.fUp.length ≤ 1048576
  new : w.fNew.length ≤ 1048576
  old : w.fOld.length ≤ 1048576
  oldB : M.imgsOk w.fOld
  n : w.fN.length ≤ 1048576
  nodes : M.nodesOk w.fN
  d : w.fD.length ≤ 1048576
  disks : M.disksOk w.fD
  net : w.fNet.length ≤ 1048576
  log : w.fLog.length ≤ 1048576
theorem worldOk {w : World} (hw : World.wf w) (hb : World.bulk w ≤ 1048576) : M.WorldOk w := by
  have h0 := hb
  unfold World.bulk at h0
  have h1 := bulkL_len (f := Image.bulk) w.fOld
  have h2 := bulkL_len (f := Node.bulk) w.fN
  have h3 := bulkL_len (f := Disk.bulk) w.fD
  have h4 := bulkL_len (f := Packet.bulk) w.fNet
  obtain ⟨_, _, _, h5, _⟩ := hw
  have e1 : Tree.bulk w.fT = w.fT.fUp.length := rfl
  refine ⟨by omega, by omega, by omega, imgs_wf h5 (by omega), by omega, fun x hx => ?_, by omega, fun x hx => ?_, by omega, by omega⟩
  · have h6 := bulkL_mem (f := Node.bulk) hx
    unfold Node.bulk Manifest.bulk at h6
    have h7 : Node.bulk x = x.fMan.fSums.length + (x.fBld.fBuf.length + x.fKids.length) := rfl
    have h8 := bulkL_mem (f := Node.bulk) hx
    omega
  · have h8 := bulkL_mem (f := Disk.bulk) hx
    have h7 : Disk.bulk x = x.fA.length + (x.fB.length + bulkL Put.bulk x.fP) := rfl
    have h9 := bulkL_len (f := Put.bulk) x.fP
    omega
structure M.DOk (d : Disk) : Prop where
  a : d.fA.length ≤ 1048576
  b : d.fB.length ≤ 1048576
  p : d.fP.length ≤ 1048576
  puts : ∀ x ∈ d.fP, x.fB.length ≤ 1048576
theorem dok {d : Disk} (h : Disk.bulk d ≤ 1048576) : M.DOk d := by
  have e : Disk.bulk d = d.fA.length + (d.fB.length + bulkL Put.bulk d.fP) := rfl
  have := bulkL_len (f := Put.bulk) d.fP
  refine ⟨by omega, by omega, by omega, fun x hx => ?_⟩
  have h1 : x.fB.length ≤ bulkL Put.bulk d.fP := bulkL_mem (f := Put.bulk) hx
  omega
structure M.DsOk (w : World) : Prop where
  d : w.fD.length ≤ 1048576
  old : w.fOld.length ≤ 1048576
  ok : ∀ x ∈ w.fD, M.DOk x
theorem dsOk {w : World} (h : World.bulk w ≤ 1048576) : M.DsOk w := by
  have h0 := h
  unfold World.bulk at h0
  have h1 := bulkL_len (f := Image.bulk) w.fOld
  have h3 := bulkL_len (f := Disk.bulk) w.fD
  refine ⟨by omega, by omega, fun x hx => dok ?_⟩
  have := bulkL_mem (f := Disk.bulk) hx
  omega
structure M.StOk (w : World) : Prop where
  ds : M.DsOk w
  n : w.fN.length ≤ 1048576
theorem stOk {w : World} (hw : World.wf w) (h : World.bulk w ≤ 1048576) : M.StOk w := ⟨dsOk h, (worldOk hw h).n⟩
def M.cnt : Nat → Nat → Nat
  | 0, _ => 0
  | n + 1, x => x % 2 + M.cnt n (x / 2)
theorem cnt_split : ∀ (k n a B : Nat), a < 2 ^ k → M.cnt (k + n) (a + 2 ^ k * B) = M.cnt k a + M.cnt n B
  | 0, n, a, B, h => by
    obtain rfl : a = 0 := by simpa using h
    simp [M.cnt]
  | k + 1, n, a, B, h => by
    rw [Nat.pow_succ] at h
    have e : (a + 2 ^ (k + 1) * B) / 2 = a / 2 + 2 ^ k * B := by
      rw [Nat.pow_succ, show 2 ^ k * 2 * B = 2 * (2 ^ k * B) by rw [Nat.mul_comm (2 ^ k) 2, Nat.mul_assoc]]
      omega
    have e2 : (a + 2 ^ (k + 1) * B) % 2 = a % 2 := by
      rw [Nat.pow_succ, show 2 ^ k * 2 * B = 2 * (2 ^ k * B) by rw [Nat.mul_comm (2 ^ k) 2, Nat.mul_assoc]]
      omega
    rw [show k + 1 + n = (k + n) + 1 by omega]
    simp only [M.cnt]
    rw [e, e2, cnt_split k n (a / 2) B (by omega)]
    omega
def M.mk (c : Nat) : Nat → Nat
  | 0 => 0
  | n + 1 => c + 256 * M.mk c n
theorem and_split {a b c d : Nat} (ha : a < 256) (hc : c < 256) : (a + 256 * b) &&& (c + 256 * d) = (a &&& c) + 256 * (b &&& d) := by
  have h1 : (a &&& c) < 2 ^ 8 := Nat.and_lt_two_pow _ hc
  rw [Nat.add_comm a, Nat.add_comm c, Nat.add_comm (a &&& c), show (256 : Nat) = 2 ^ 8 by rfl]
  apply Nat.eq_of_testBit_eq
  intro i
  rw [Nat.testBit_and, Nat.testBit_two_pow_mul_add _ ha, Nat.testBit_two_pow_mul_add _ hc, Nat.testBit_two_pow_mul_add _ h1]
  split <;> rw [Nat.testBit_and]
def M.s1 (n x : Nat) : Nat := ((x / 2) &&& M.mk 85 n) + (x &&& M.mk 85 n)
def M.s2 (n b : Nat) : Nat := ((b / 4) &&& M.mk 51 n) + (b &&& M.mk 51 n)
def M.s3 (n c : Nat) : Nat := ((c / 16) + c) &&& M.mk 15 n
theorem s1_at : ∀ e : Fin 2, ∀ a : Fin 256, ((a.val / 2 + 128 * e.val) &&& 85) + (a.val &&& 85) = M.s1 1 a.val ∧ M.s1 1 a.val < 256 := by decide +kernel
theorem s2_at : ∀ e : Fin 4, ∀ a : Fin 256, ((a.val / 4 + 64 * e.val) &&& 51) + (a.val &&& 51) = M.s2 1 a.val ∧ M.s2 1 a.val ≤ 102 ∧ M.s2 1 a.val % 16 ≤ 6 := by decide +kernel
theorem s3_at : ∀ e : Fin 7, ∀ a : Fin 103, ((a.val / 16 + 16 * e.val + a.val) &&& 15) = M.s3 1 a.val := by decide +kernel
theorem s_all : ∀ a : Fin 256, M.s3 1 (M.s2 1 (M.s1 1 a.val)) = M.cnt 8 a.val := by decide +kernel
theorem s1_split {a B n : Nat} (ha : a < 256) : M.s1 (n + 1) (a + 256 * B) = M.s1 1 a + 256 * M.s1 n B := by
  have h := (s1_at ⟨B % 2, by omega⟩ ⟨a, ha⟩).1
  simp only at h
  unfold M.s1
  rw [show (a + 256 * B) / 2 = (a / 2 + 128 * (B % 2)) + 256 * (B / 2) by omega]
  simp only [M.mk]
  rw [and_split (by omega) (by omega), and_split ha (by omega)]
  unfold M.s1 at h
  simp only [M.mk] at h
  omega
theorem s2_split {a B n : Nat} (ha : a < 256) : M.s2 (n + 1) (a + 256 * B) = M.s2 1 a + 256 * M.s2 n B := by
  have h := (s2_at ⟨B % 4, by omega⟩ ⟨a, ha⟩).1
  simp only at h
  unfold M.s2
  rw [show (a + 256 * B) / 4 = (a / 4 + 64 * (B % 4)) + 256 * (B / 4) by omega]
  simp only [M.mk]
  rw [and_split (by omega) (by omega), and_split ha (by omega)]
  unfold M.s2 at h
  simp only [M.mk] at h
  omega
theorem s3_split {a B n : Nat} (ha : a ≤ 102) (hB : B % 16 ≤ 6) : M.s3 (n + 1) (a + 256 * B) = M.s3 1 a + 256 * M.s3 n B := by
  have h := s3_at ⟨B % 16, by omega⟩ ⟨a, by omega⟩
  simp only at h
  unfold M.s3
  rw [show (a + 256 * B) / 16 + (a + 256 * B) = (a / 16 + 16 * (B % 16) + a) + 256 * (B / 16 + B) by omega]
  simp only [M.mk]
  rw [and_split (by omega) (by omega)]
  unfold M.s3 at h
  simp only [M.mk] at h
  omega
theorem s1_lt {a : Nat} (h : a < 256) : M.s1 1 a < 256 := (s1_at 0 ⟨a, h⟩).2
theorem s2_lt {a : Nat} (h : a < 256) : M.s2 1 a ≤ 102 ∧ M.s2 1 a % 16 ≤ 6 := (s2_at 0 ⟨a, h⟩).2
theorem s2_low {n B : Nat} : M.s2 n (M.s1 n B) % 16 ≤ 6 := by
  cases n with
  | zero => simp [M.s2, M.mk]
  | succ n =>
    have hl : B % 256 < 256 := by omega
    have e : B = B % 256 + 256 * (B / 256) := by omega
    rw [e, s1_split hl, s2_split (s1_lt hl)]
    have := (s2_lt (s1_lt hl)).2
    omega
theorem s_split {a B n : Nat} (ha : a < 256) : M.s3 (n + 1) (M.s2 (n + 1) (M.s1 (n + 1) (a + 256 * B))) = M.cnt 8 a + 256 * M.s3 n (M.s2 n (M.s1 n B)) := by
  have h1 := (s1_at 0 ⟨a, ha⟩).2
  have h2 := (s2_at 0 ⟨M.s1 1 a, h1⟩).2.1
  rw [s1_split ha, s2_split h1, s3_split h2 s2_low, s_all ⟨a, ha⟩]
theorem cnt8_le {a : Nat} (ha : a < 256) : M.cnt 8 a ≤ 8 := by
  have : ∀ a : Fin 256, M.cnt 8 a.val ≤ 8 := by decide +kernel
  exact this ⟨a, ha⟩
theorem s_five {x : Nat} (hx : x < 1099511627776) : ∃ p0 p1 p2 p3 p4 : Nat, p0 ≤ 8 ∧ p1 ≤ 8 ∧ p2 ≤ 8 ∧ p3 ≤ 8 ∧ p4 ≤ 8 ∧ M.s3 8 (M.s2 8 (M.s1 8 x)) = p0 + 256 * (p1 + 256 * (p2 + 256 * (p3 + 256 * p4))) ∧ M.cnt 40 x = p0 + p1 + p2 + p3 + p4 := by
  have e : x = x % 256 + 256 * (x / 256 % 256 + 256 * (x / 65536 % 256 + 256 * (x / 16777216 % 256 + 256 * (x / 4294967296 % 256 + 256 * 0)))) := by omega
  refine ⟨M.cnt 8 (x % 256), M.cnt 8 (x / 256 % 256), M.cnt 8 (x / 65536 % 256), M.cnt 8 (x / 16777216 % 256), M.cnt 8 (x / 4294967296 % 256), cnt8_le (by omega), cnt8_le (by omega), cnt8_le (by omega), cnt8_le (by omega), cnt8_le (by omega), ?_, ?_⟩
  · conv => lhs; rw [e]
    rw [s_split (by omega), s_split (by omega), s_split (by omega), s_split (by omega), s_split (by omega)]
    have : M.s3 3 (M.s2 3 (M.s1 3 0)) = 0 := by decide +kernel
    omega
  · have c : ∀ (n a B : Nat), a < 256 → M.cnt (8 + n) (a + 256 * B) = M.cnt 8 a + M.cnt n B := fun n a B h => cnt_split 8 n a B h
    conv => lhs; rw [e]
    rw [show (40 : Nat) = 8 + (8 + (8 + (8 + (8 + 0)))) by rfl, c _ _ _ (by omega), c _ _ _ (by omega), c _ _ _ (by omega), c _ _ _ (by omega), c _ _ _ (by omega)]
    simp only [M.cnt]
    omega
theorem u64_nat {n : Nat} (h : n < 18446744073709551616) : IntKind.wrap .u64 (n : Int) = (n : Int) := by
  show (n : Int) % 18446744073709551616 = (n : Int)
  omega
theorem bAdd_u64 {a b : Nat} (h : a + b < 18446744073709551616) : bAdd .u64 (a : Int) (b : Int) = ((a + b : Nat) : Int) := by
  unfold bAdd
  rw [← Int.natCast_add, u64_nat h]
theorem bShr_u64 {a i : Nat} (h : i ≤ 64) : bShr .u64 (a : Int) (i : Int) = ((a / 2 ^ i : Nat) : Int) := by
  unfold bShr
  rw [Int.toNat_natCast, show min i IntKind.u64.bits = i from Nat.min_eq_left h, Int.fdiv_eq_ediv_of_nonneg _ (by have : (0 : Int) < 2 ^ i := Int.pow_pos (by omega); omega)]
  norm_cast
theorem bAnd_u64 {a b : Nat} (h1 : a < 18446744073709551616) (h2 : b < 18446744073709551616) : bAnd .u64 (a : Int) (b : Int) = ((a &&& b : Nat) : Int) := by
  unfold bAnd
  have e : ∀ n : Nat, n < 18446744073709551616 → (BitVec.ofInt IntKind.u64.bits (n : Int)).toNat = n := fun n h => by
    rw [BitVec.ofInt_natCast]
    show (BitVec.ofNat 64 n).toNat = n
    rw [BitVec.toNat_ofNat]; omega
  rw [BitVec.toNat_and, e a h1, e b h2, u64_nat]
  exact Nat.lt_of_le_of_lt Nat.and_le_left h1
theorem sh_u64 (a i : Nat) (h : i ≤ 64) (j : Int) (hj : j = (i : Int)) : bShr .u64 (a : Int) j = ((a / 2 ^ i : Nat) : Int) := by subst hj; exact bShr_u64 h
theorem mk_85 : M.mk 85 8 = 6148914691236517205 := by decide +kernel
theorem mk_51 : M.mk 51 8 = 3689348814741910323 := by decide +kernel
theorem mk_15 : M.mk 15 8 = 1085102592571150095 := by decide +kernel
theorem ones_fin {p0 p1 p2 p3 p4 y z v : Nat} (h0 : p0 ≤ 8) (h1 : p1 ≤ 8) (h2 : p2 ≤ 8) (h3 : p3 ≤ 8) (h4 : p4 ≤ 8) (hy : p0 + 256 * (p1 + 256 * (p2 + 256 * (p3 + 256 * p4))) = y) (hz : y + y / 256 = z) (hv : z + z / 65536 = v) :
    y ≤ 68719476736 ∧ z ≤ 68719476736 ∧ v + v / 4294967296 ≤ 68719476736 ∧ (v + v / 4294967296) % 128 = p0 + p1 + p2 + p3 + p4 := by
  have e1 : y / 256 = p1 + 256 * (p2 + 256 * (p3 + 256 * p4)) := by omega
  have e2 : z = (p0 + p1) + 256 * (p1 + p2) + 65536 * ((p2 + p3) + 256 * (p3 + p4) + 65536 * p4) := by omega
  have e3 : z / 65536 = (p2 + p3) + 256 * (p3 + p4) + 65536 * p4 := by omega
  have e4 : v = (p0 + p1 + p2 + p3) + 256 * (p1 + p2 + p3 + p4) + 65536 * (p2 + p3 + p4 + 256 * (p3 + p4)) + 4294967296 * p4 := by omega
  have e5 : v / 4294967296 = p4 := by omega
  omega
theorem s1_8 (x : Nat) : M.s1 8 x = (x / 2 &&& 6148914691236517205) + (x &&& 6148914691236517205) := by unfold M.s1; rw [mk_85]
theorem s2_8 (x : Nat) : M.s2 8 x = (x / 4 &&& 3689348814741910323) + (x &&& 3689348814741910323) := by unfold M.s2; rw [mk_51]
theorem s3_8 (x : Nat) : M.s3 8 x = (x / 16 + x) &&& 1085102592571150095 := by unfold M.s3; rw [mk_15]
theorem one_b (x : Nat) (hx : x < 18446744073709551616) : bAdd .u64 (bAnd .u64 (bShr .u64 (x : Int) 1) 6148914691236517205) (bAnd .u64 (x : Int) 6148914691236517205) = ((M.s1 8 x : Nat) : Int) ∧ M.s1 8 x ≤ 12297829382473034410 := by
  have h1 : (x / 2 &&& 6148914691236517205) ≤ 6148914691236517205 := Nat.and_le_right
  have h2 : (x &&& 6148914691236517205) ≤ 6148914691236517205 := Nat.and_le_right
  have m : (6148914691236517205 : Int) = ((6148914691236517205 : Nat) : Int) := rfl
  rw [s1_8, m, sh_u64 x 1 (by omega) 1 rfl, show 2 ^ 1 = 2 by rfl, bAnd_u64 (by omega) (by omega), bAnd_u64 hx (by omega), bAdd_u64 (by omega)]
  exact ⟨rfl, by omega⟩
theorem one_c (x : Nat) (hx : x < 18446744073709551616) : bAdd .u64 (bAnd .u64 (bShr .u64 (x : Int) 2) 3689348814741910323) (bAnd .u64 (x : Int) 3689348814741910323) = ((M.s2 8 x : Nat) : Int) ∧ M.s2 8 x ≤ 7378697629483820646 := by
  have h1 : (x / 4 &&& 3689348814741910323) ≤ 3689348814741910323 := Nat.and_le_right
  have h2 : (x &&& 3689348814741910323) ≤ 3689348814741910323 := Nat.and_le_right
  have m : (3689348814741910323 : Int) = ((3689348814741910323 : Nat) : Int) := rfl
  rw [s2_8, m, sh_u64 x 2 (by omega) 2 rfl, show 2 ^ 2 = 4 by rfl, bAnd_u64 (by omega) (by omega), bAnd_u64 hx (by omega), bAdd_u64 (by omega)]
  exact ⟨rfl, by omega⟩
theorem one_d (x : Nat) (hx : x ≤ 7378697629483820646) : bAnd .u64 (bAdd .u64 (bShr .u64 (x : Int) 4) (x : Int)) 1085102592571150095 = ((M.s3 8 x : Nat) : Int) := by
  have m : (1085102592571150095 : Int) = ((1085102592571150095 : Nat) : Int) := rfl
  rw [s3_8, m, sh_u64 x 4 (by omega) 4 rfl, show 2 ^ 4 = 16 by rfl, bAdd_u64 (by omega), bAnd_u64 (by omega) (by omega)]
theorem one_e (y i p : Nat) (h : i ≤ 64) (hp : p = 2 ^ i) (hb : y + y / p < 18446744073709551616) (j : Int) (hj : j = (i : Int)) : bAdd .u64 (y : Int) (bShr .u64 (y : Int) j) = ((y + y / p : Nat) : Int) := by
  rw [sh_u64 y i h j hj, ← hp, bAdd_u64 hb]
theorem ones_eq {u x : Nat} (hx : x < 1099511627776) : bits_OnesCount64 u (x : Int) = some ((M.cnt 40 x : Nat) : Int) := by
  obtain ⟨hB, b1⟩ := one_b x (Nat.lt_trans hx (by decide))
  obtain ⟨hC, b2⟩ := one_c (M.s1 8 x) (Nat.lt_of_le_of_lt b1 (by decide))
  have hD := one_d (M.s2 8 (M.s1 8 x)) b2
  obtain ⟨p0, p1, p2, p3, p4, h0, h1, h2, h3, h4, hs, hc⟩ := s_five hx
  unfold bits_OnesCount64
  rw [hB, hC, hD, hs, hc]
  clear hB hC hD hs hc b1 b2
  generalize hy : p0 + 256 * (p1 + 256 * (p2 + 256 * (p3 + 256 * p4))) = y
  generalize hz : y + y / 256 = z
  generalize hv : z + z / 65536 = v
  obtain ⟨f1, f2, f3, f4⟩ := ones_fin h0 h1 h2 h3 h4 hy hz hv
  clear hy
  rw [one_e y 8 256 (by omega) rfl (by omega) 8 rfl, hz, one_e z 16 65536 (by omega) rfl (by omega) 16 rfl, hv, one_e v 32 4294967296 (by omega) rfl (by omega) 32 rfl, wrap_i64 (by omega) (by omega), bAnd127]
  rw [← f4]
  congr 1
theorem impl_CountSet_eq {u : Nat} (s : Int) : impl_CountSet u s = some (if M.setOk s = true then ((M.cnt 40 s.toNat : Nat) : Int) else 0) := by
  unfold impl_CountSet
  rw [impl_SetOk_eq, Option.bind_some]
  cases h : M.setOk s with
  | false => rfl
  | true =>
    have h1 := within_t h
    obtain ⟨x, rfl⟩ : ∃ x : Nat, s = x := ⟨s.toNat, by omega⟩
    rw [u64_nat (by omega), ones_eq (by omega)]
    rfl
theorem spec_count_walk {u : Nat} {s : Int} (h : M.setOk s = true) : ∀ (n i : Nat) (a : Int), i + n ≤ 40 → 0 ≤ a → a ≤ i → walk (spec_CountSet_l2_f u s) (spec_CountSet_l2_b u s) n i a = some (a + ((M.cnt n (s.toNat / 2 ^ i) : Nat) : Int))
  | 0, i, a, _, _, _ => by simp [walk, spec_CountSet_l2_f, spec_CountSet_j1, M.cnt]
  | n + 1, i, a, hi, h0, h1 => by
    have hp : M.isPlace (i : Int) = true := by simp [M.isPlace, M.within]; omega
    have e : M.inSet s (i : Int) = decide (s.toNat / 2 ^ i % 2 = 1) := by
      unfold M.inSet
      rw [h, hp, Int.toNat_natCast, Nat.testBit_eq_decide_div_mod_eq]
      rfl
    have hd : s.toNat / 2 ^ (i + 1) = s.toNat / 2 ^ i / 2 := by rw [Nat.pow_succ, Nat.div_div_eq_div_mul]
    simp only [walk, spec_CountSet_l2_b, spec_InSet_eq, spec_CountSet_j3, Option.bind_some, e, M.cnt]
    by_cases hb : s.toNat / 2 ^ i % 2 = 1
    · rw [decide_eq_true hb, cond_true, bAdd_i64 (by omega) (by omega), spec_count_walk h n (i + 1) (a + 1) (by omega) (by omega) (by omega), hd, hb]
      congr 1; omega
    · rw [decide_eq_false hb, cond_false, spec_count_walk h n (i + 1) a (by omega) (by omega) (by omega), hd, show s.toNat / 2 ^ i % 2 = 0 by omega]
      congr 1; omega
theorem spec_count_no {u : Nat} {s : Int} (h : M.setOk s = false) : ∀ (n i : Nat) (a : Int), walk (spec_CountSet_l2_f u s) (spec_CountSet_l2_b u s) n i a = some a
  | 0, i, a => by simp [walk, spec_CountSet_l2_f, spec_CountSet_j1]
  | n + 1, i, a => by
    have e : M.inSet s (i : Int) = false := by unfold M.inSet; rw [h]; rfl
    simp only [walk, spec_CountSet_l2_b, spec_InSet_eq, spec_CountSet_j3, Option.bind_some, e, cond_false]
    exact spec_count_no h n (i + 1) a
theorem spec_CountSet_eq {u : Nat} (hu : 1099511627776 ≤ u) (s : Int) : spec_CountSet u s = some (if M.setOk s = true then ((M.cnt 40 s.toNat : Nat) : Int) else 0) := by
  unfold spec_CountSet
  rw [spec_CountSet_l2_w u s 0 u (by omega) (by omega), show Int.toNat 40 = 40 by rfl]
  cases h : M.setOk s with
  | false => rw [spec_count_no h]; rfl
  | true => rw [spec_count_walk h 40 0 0 (by omega) (by omega) (by omega)]; simp
theorem cnt_le : ∀ (n x : Nat), M.cnt n x ≤ n
  | 0, _ => Nat.le_refl _
  | n + 1, x => by
    have := cnt_le n (x / 2)
    simp only [M.cnt]; omega
theorem chk_of {p : Prop} [Decidable p] (h : p) : chk (decide p) = some () := by rw [decide_eq_true h]; rfl
def M.cs (s : Int) : Int := if M.setOk s = true then ((M.cnt 40 s.toNat : Nat) : Int) else 0
theorem cs_b (s : Int) : 0 ≤ M.cs s ∧ M.cs s ≤ 40 := by
  unfold M.cs
  have := cnt_le 40 s.toNat
  split <;> omega
theorem spec_CountSet_cs {u : Nat} (hu : 1099511627776 ≤ u) (s : Int) : spec_CountSet u s = some (M.cs s) := spec_CountSet_eq hu s
theorem impl_CountSet_cs {u : Nat} (s : Int) : impl_CountSet u s = some (M.cs s) := impl_CountSet_eq s
theorem sz1 (a : UInt8) : (ByteArray.mk #[a]).size = 1 := rfl
def M.acc (sep : ByteArray) : Nat → ByteArray → List ByteArray → ByteArray
  | _, s, [] => s
  | i, s, t :: ts => M.acc sep (i + 1) ((if i > 0 then s ++ sep else s) ++ t) ts
def M.jn (sep : ByteArray) (ts : List ByteArray) : ByteArray := ⟨(Lib.join (ts.map (·.data.toList)) sep.data.toList).toArray⟩
theorem acc_pos (sep : ByteArray) : ∀ (ts : List ByteArray) (i : Nat) (s : ByteArray), (M.acc sep (i + 1) s ts).data.toList = s.data.toList ++ Lib.joinTail sep.data.toList (ts.map (·.data.toList))
  | [], i, s => by simp [M.acc, Lib.joinTail]
  | t :: ts, i, s => by
    rw [M.acc, acc_pos sep ts, if_pos (by omega), ba_app, ba_app]
    simp [Lib.joinTail]
theorem acc_jn (sep : ByteArray) (ts : List ByteArray) : M.acc sep 0 (ByteArray.mk #[]) ts = M.jn sep ts := by
  refine ba_ext ?_
  unfold M.jn
  cases ts with
  | nil => rfl
  | cons t ts =>
    rw [M.acc, acc_pos, if_neg (by omega), ba_app, List.map_cons, Lib.join_cons]
    simp
theorem sep_size {sep s : ByteArray} {i : Nat} (hs : sep.size ≤ 2) : (if i > 0 then s ++ sep else s).size ≤ s.size + 2 := by
  split
  · rw [ByteArray.size_append]; omega
  · omega
theorem acc_size (sep : ByteArray) {B : Nat} (hs : sep.size ≤ 2) : ∀ (ts : List ByteArray) (i : Nat) (s : ByteArray), (∀ t ∈ ts, t.size ≤ B) → (M.acc sep i s ts).size ≤ s.size + ts.length * (B + 2)
  | [], i, s, _ => by simp [M.acc]
  | t :: ts, i, s, h => by
    have h1 := acc_size sep hs ts (i + 1) ((if i > 0 then s ++ sep else s) ++ t) (fun t ht => h t (by simp [ht]))
    have h2 := h t (by simp)
    rw [ByteArray.size_append] at h1
    have h3 : (if i > 0 then s ++ sep else s).size ≤ s.size + 2 := sep_size hs
    rw [M.acc, List.length_cons, Nat.add_mul]
    omega
theorem jn_size {sep : ByteArray} {B : Nat} (hs : sep.size ≤ 2) {ts : List ByteArray} (h : ∀ t ∈ ts, t.size ≤ B) : (M.jn sep ts).size ≤ ts.length * (B + 2) := by
  rw [← acc_jn]
  have := acc_size sep hs ts 0 (ByteArray.mk #[]) h
  rw [show (ByteArray.mk #[]).size = 0 by rfl] at this
  omega
theorem join_eq {u : Nat} {sep : ByteArray} {B : Nat} (hs : sep.size ≤ 2) {ts : List ByteArray} (h : ∀ t ∈ ts, t.size ≤ B) (hl : ts.length ≤ 2097152) (hB : B ≤ 1000) : strings_Join u ts sep = some (M.jn sep ts) := by
  have h1 := jn_size hs h
  have h2 : ts.length * (B + 2) ≤ 2097152 * 1002 := Nat.mul_le_mul hl (by omega)
  have h3 : (Lib.join (ts.map (·.data.toList)) sep.data.toList).length ≤ 140737488355328 := by
    have e : (M.jn sep ts).size = (Lib.join (ts.map (·.data.toList)) sep.data.toList).length := by simp [M.jn, ByteArray.size]
    omega
  unfold strings_Join
  rw [decide_eq_true h3, decide_eq_true (show ts.length ≤ 140737488355328 by omega)]
  rfl
theorem walk_acc {ρ : Type} {f : ByteArray → Option ρ} {b : Nat → ByteArray → (ByteArray → Option ρ) → Option ρ} {ts : List ByteArray} {sep : ByteArray} {B : Nat} (hs : sep.size ≤ 2) (h : ∀ t ∈ ts, t.size ≤ B) (hl : ts.length ≤ 2097152) (hB : B ≤ 1000)
    (hb : ∀ (i : Nat) (s : ByteArray) (k : ByteArray → Option ρ) (t : ByteArray), ts[i]? = some t → t.size ≤ 1000 → s.size ≤ 4611686018427387904 → b i s k = k ((if i > 0 then s ++ sep else s) ++ t)) :
    ∀ (n i : Nat) (s : ByteArray), i + n = ts.length → s.size ≤ i * 1002 → walk f b n i s = f (M.acc sep i s (ts.drop i))
  | 0, i, s, hi, hz => by rw [List.drop_eq_nil_of_le (by omega)]; rfl
  | n + 1, i, s, hi, hz => by
    have hlt : i < ts.length := by omega
    have ht := h ts[i] (List.getElem_mem hlt)
    rw [List.drop_eq_getElem_cons hlt, walk, hb i s _ ts[i] (List.getElem?_eq_getElem hlt) (by omega) (by omega), M.acc]
    refine walk_acc hs h hl hB hb n (i + 1) _ (by omega) ?_
    rw [ByteArray.size_append]
    have h3 : (if i > 0 then s ++ sep else s).size ≤ s.size + 2 := sep_size hs
    omega
theorem wlist_map {α ρ : Type} {f : List ByteArray → Option ρ} {b : α → Nat → List ByteArray → (List ByteArray → Option ρ) → Option ρ} {g : α → ByteArray} : ∀ (l : List α) (i : Nat) (s : List ByteArray),
    (∀ y ∈ l, ∀ (i : Nat) (s : List ByteArray) (k : List ByteArray → Option ρ), s.length ≤ 2097152 → b y i s k = k (s ++ [g y])) → s.length + l.length ≤ 2097152 → wlist f b l i s = f (s ++ l.map g)
  | [], i, s, _, _ => by simp [wlist]
  | y :: l, i, s, h, hl => by
    rw [List.length_cons] at hl
    rw [wlist, h y (by simp) i s _ (by omega), wlist_map l (i + 1) _ (fun y hy => h y (by simp [hy])) (by rw [List.length_append, List.length_singleton]; omega)]
    simp
theorem chk_row (s : List ByteArray) (t : ByteArray) (h : s.length ≤ 2097152) : chk (decide ((s.length + ([t]).length) * 16 ≤ 140737488355328)) = some () := chk_of (by rw [List.length_singleton]; omega)
theorem sz2 (a b : UInt8) : (ByteArray.mk #[a, b]).size = 2 := rfl
def M.phs : List ByteArray := [(ByteArray.mk #[105, 100, 108, 101]), (ByteArray.mk #[103, 97, 116, 104, 101, 114]), (ByteArray.mk #[115, 116, 97, 103, 101, 100]), (ByteArray.mk #[115, 117, 114, 101]), (ByteArray.mk #[109, 101, 97, 110, 116]), (ByteArray.mk #[100, 111, 110, 101]), (ByteArray.mk #[114, 111, 111, 116])]
def M.phName (n : Int) : ByteArray := if M.within n 0 6 then (M.phs[n.toNat]?).getD (ByteArray.mk #[]) else ByteArray.mk #[]
theorem phs_size : ∀ k : Fin 7, ((M.phs[k.val]?).getD (ByteArray.mk #[])).size ≤ 10 := by decide
theorem phName_size (n : Int) : (M.phName n).size ≤ 10 := by
  unfold M.phName
  by_cases h : M.within n 0 6 = true
  · rw [if_pos h]
    have := within_t h
    exact phs_size ⟨n.toNat, by omega⟩
  · rw [if_neg h]; exact Nat.zero_le _
theorem phs_at {n : Int} (h : M.within n 0 6 = true) : idx M.phs n = some (M.phName n) := by
  have h1 := within_t h
  obtain ⟨k, rfl⟩ : ∃ k : Nat, n = k := ⟨n.toNat, by omega⟩
  have hk : k < M.phs.length := by show k < 7; omega
  rw [idx_lit M.phs k (List.getElem?_eq_getElem hk)]
  unfold M.phName
  rw [if_pos h, Int.toNat_natCast, List.getElem?_eq_getElem hk]
  rfl
theorem impl_PhName_eq (u : Nat) (n : Int) : impl_PhName u n = some (M.phName n) := by
  unfold impl_PhName
  rw [impl_within_eq, Option.bind_some]
  cases h : M.within n 0 6 with
  | false =>
    have : M.phName n = ByteArray.mk #[] := by unfold M.phName; rw [h]; rfl
    rw [this]; rfl
  | true =>
    simp only [Bool.not_true, cond_false]
    have h2 := phs_at h
    unfold M.phs at h2
    rw [h2]
    rfl
theorem spec_PhName_eq (u : Nat) (n : Int) : spec_PhName u n = some (M.phName n) := by
  unfold spec_PhName
  have e : bSub .i64 ((M.phs.length : Int)) 1 = 6 := by
    rw [show M.phs.length = 7 by rfl, bSub_i64] <;> omega
  unfold M.phs at e
  rw [e, spec_l1In_eq, Option.bind_some]
  cases h : M.within n 0 6 with
  | false =>
    have : M.phName n = ByteArray.mk #[] := by unfold M.phName; rw [h]; rfl
    rw [this]; rfl
  | true =>
    simp only [Bool.not_true, cond_false]
    have h2 := phs_at h
    unfold M.phs at h2
    rw [h2]
    rfl
def M.sp : ByteArray := ByteArray.mk #[32]
theorem sp_size : M.sp.size = 1 := rfl
def M.nodeText (x : Node) : ByteArray := if x.fOn then M.phName x.fPhase ++ (M.sp ++ M.num x.fBoss) ++ (M.sp ++ M.num (M.cs x.fBld.fHave)) ++ (M.sp ++ M.num x.fKids.length) ++ (M.sp ++ M.num x.fDrops) else ByteArray.mk #[111, 102, 102]
structure M.NodeWf (x : Node) : Prop where
  boss : -9223372036854775808 ≤ x.fBoss ∧ x.fBoss ≤ 9223372036854775807
  drops : -9223372036854775808 ≤ x.fDrops ∧ x.fDrops ≤ 9223372036854775807
  kids : x.fKids.length ≤ 1048576
theorem bindE {p : Prop} [Decidable p] {b : ByteArray} {k : Unit → Option ByteArray} (h : p) (hk : ∃ w, k () = some w ∧ w = b) : ∃ w, (chk (decide p)).bind k = some w ∧ w = b := by
  rw [chk_of h]; exact hk
theorem nodeText_size {x : Node} (h : M.NodeWf x) : (M.nodeText x).size ≤ 200 := by
  unfold M.nodeText
  split
  · have h0 := phName_size x.fPhase
    have h1 := num_size h.boss.1 h.boss.2
    have hc := cs_b x.fBld.fHave
    have h2 := num_size (n := M.cs x.fBld.fHave) (by omega) (by omega)
    have hk := h.kids
    have h3 := num_size (n := (x.fKids.length : Int)) (by omega) (by omega)
    have h4 := num_size h.drops.1 h.drops.2
    simp only [ByteArray.size_append, sp_size]
    omega
  · show 3 ≤ 200; omega
theorem impl_NodeText_eq {u : Nat} (hu : 1099511627776 ≤ u) {x : Node} (h : M.NodeWf x) : impl_NodeText u x = some (M.nodeText x) := by
  unfold impl_NodeText M.nodeText
  cases ho : x.fOn with
  | false => rfl
  | true =>
    have h0 := phName_size x.fPhase
    have h1 := num_size h.boss.1 h.boss.2
    have hc := cs_b x.fBld.fHave
    have h2 := num_size (n := M.cs x.fBld.fHave) (by omega) (by omega)
    have hk := h.kids
    have h3 := num_size (n := (x.fKids.length : Int)) (by omega) (by omega)
    have h4 := num_size h.drops.1 h.drops.2
    simp only [Bool.not_true, cond_false, impl_PhName_eq, impl_CountSet_cs, Option.bind_some, if_true]
    rw [impl_NodeText_l2_w u x _ _ u (by simp) (by simp; omega)]
    have step : ∀ (i : Nat) (s : ByteArray) (k : ByteArray → Option ByteArray) (n : Int), [x.fBoss, M.cs x.fBld.fHave, (x.fKids.length : Int), x.fDrops][i]? = some n → -9223372036854775808 ≤ n ∧ n ≤ 9223372036854775807 → s.size ≤ 1000 →
        impl_NodeText_l2_b u x (M.cs x.fBld.fHave) i s k = k (s ++ (M.sp ++ M.num n)) := fun i s k n hi hn hs => by
      have hz := num_size hn.1 hn.2
      unfold impl_NodeText_l2_b
      rw [idx_lit _ i hi, Option.bind_some, impl_NumText_eq hn.1 hn.2, Option.bind_some, chk_of (by rw [sz1]; omega), Option.bind_some, chk_of (by rw [ByteArray.size_append, sz1]; omega), Option.bind_some]
      rfl
    rw [show Int.toNat (([x.fBoss, M.cs x.fBld.fHave, (x.fKids.length : Int), x.fDrops].length : Nat) : Int) = 4 by rfl]
    simp only [walk]
    rw [step 0 _ _ x.fBoss rfl h.boss (by omega), step 1 _ _ (M.cs x.fBld.fHave) rfl (by omega) (by simp only [ByteArray.size_append, sp_size]; omega), step 2 _ _ (x.fKids.length : Int) rfl (by omega) (by simp only [ByteArray.size_append, sp_size]; omega), step 3 _ _ x.fDrops rfl h.drops (by simp only [ByteArray.size_append, sp_size]; omega)]
    rfl
theorem spec_NodeText_eq {u : Nat} (hu : 1099511627776 ≤ u) {x : Node} (h : M.NodeWf x) : spec_NodeText u x = some (M.nodeText x) := by
  unfold spec_NodeText M.nodeText
  cases ho : x.fOn with
  | false => rfl
  | true =>
    have h0 := phName_size x.fPhase
    have h1 := num_size h.boss.1 h.boss.2
    have hc := cs_b x.fBld.fHave
    have h2 := num_size (n := M.cs x.fBld.fHave) (by omega) (by omega)
    have hk := h.kids
    have h3 := num_size (n := (x.fKids.length : Int)) (by omega) (by omega)
    have h4 := num_size h.drops.1 h.drops.2
    simp only [Bool.not_true, cond_false, spec_PhName_eq, spec_CountSet_cs hu, Option.bind_some, if_true, spec_NumText_eq hu h.boss.1 h.boss.2, spec_NumText_eq hu h.drops.1 h.drops.2, spec_NumText_eq hu (n := M.cs x.fBld.fHave) (by omega) (by omega), spec_NumText_eq hu (n := (x.fKids.length : Int)) (by omega) (by omega)]
    have e : ∀ v, (∃ w, v = some w ∧ w = M.phName x.fPhase ++ (M.sp ++ M.num x.fBoss) ++ (M.sp ++ M.num (M.cs x.fBld.fHave)) ++ (M.sp ++ M.num x.fKids.length) ++ (M.sp ++ M.num x.fDrops)) → v = some (M.phName x.fPhase ++ (M.sp ++ M.num x.fBoss) ++ (M.sp ++ M.num (M.cs x.fBld.fHave)) ++ (M.sp ++ M.num x.fKids.length) ++ (M.sp ++ M.num x.fDrops)) := fun v ⟨w, h1, h2⟩ => by rw [h1, h2]
    refine e _ ?_
    refine bindE (by simp only [ByteArray.size_append, sz1]; omega) ?_
    refine bindE (by simp only [ByteArray.size_append, sz1]; omega) ?_
    refine bindE (by simp only [ByteArray.size_append, sz1]; omega) ?_
    refine bindE (by simp only [ByteArray.size_append, sz1]; omega) ?_
    refine bindE (by simp only [ByteArray.size_append, sz1]; omega) ?_
    refine bindE (by simp only [ByteArray.size_append, sz1]; omega) ?_
    refine bindE (by simp only [ByteArray.size_append, sz1]; omega) ?_
    refine bindE (by simp only [ByteArray.size_append, sz1]; omega) ?_
    exact ⟨_, rfl, by simp only [M.sp, ByteArray.append_assoc]⟩
theorem nodes_wf {w : World} (w0 : World.wf w) (b0 : World.bulk w ≤ 1048576) : ∀ x ∈ w.fN, M.NodeWf x := fun x hx => by
  have h := w0.2.2.2.2.1.2 x hx
  have hb : Node.bulk x ≤ bulkL Node.bulk w.fN := bulkL_mem hx
  refine ⟨i64_b h.2.1, i64_b h.2.2.2.2.2.2.2.1, ?_⟩
  have hk : x.fKids.length ≤ Node.bulk x := by unfold Node.bulk; omega
  unfold World.bulk at b0
  omega
def M.sep : ByteArray := ByteArray.mk #[59, 32]
theorem texts_le {α : Type} {l : List α} {g : α → ByteArray} {B : Nat} (h : ∀ x ∈ l, (g x).size ≤ B) : ∀ t ∈ l.map g, t.size ≤ B := fun t ht => by
  obtain ⟨x, hx, rfl⟩ := List.mem_map.1 ht
  exact h x hx
theorem WorldText_same {u : Nat} (hu : 1099511627776 ≤ u) {p0 : World} (w0 : World.wf p0) (b0 : World.bulk p0 ≤ 1048576) : ∃ v, spec_WorldText u p0 = some v ∧ impl_WorldText u p0 = some v := by
  have hn := (stOk w0 b0).n
  have hw := nodes_wf w0 b0
  have hsz := texts_le (g := M.nodeText) (B := 200) (fun x hx => nodeText_size (hw x hx))
  refine ⟨M.jn M.sep (p0.fN.map M.nodeText), ?_, ?_⟩
  · unfold spec_WorldText
    rw [spec_WorldText_l2_w u p0 _ u (by omega) (by omega), Int.toNat_natCast,
      walk_acc (ts := p0.fN.map M.nodeText) (sep := M.sep) (B := 200) (Nat.le_refl 2) hsz (by rw [List.length_map]; omega) (by omega) ?_ p0.fN.length 0 _ (by simp) (Nat.zero_le _), List.drop_zero, acc_jn]
    · rfl
    · intro i s k t ht h1 h2
      rw [List.getElem?_map, Option.map_eq_some_iff] at ht
      obtain ⟨n, hn, rfl⟩ := ht
      have hj : ∀ s : ByteArray, s.size ≤ 4611686018427387906 → spec_WorldText_j3 u (fun z0 z1 z2 => k z0) s (i : Int) p0 = k (s ++ M.nodeText n) := fun s hs => by
        unfold spec_WorldText_j3
        rw [idx_lit p0.fN i hn, Option.bind_some, spec_NodeText_eq hu (hw n (List.mem_of_getElem? hn)), Option.bind_some, chk_of (by omega)]
        rfl
      unfold spec_WorldText_l2_b
      by_cases hi : i > 0
      · have hi' : (i : Int) > 0 := by omega
        rw [decide_eq_true hi', cond_true, if_pos hi, chk_of (by rw [sz2]; omega), Option.bind_some, hj _ (by rw [ByteArray.size_append, sz2]; omega)]
        rfl
      · have hi' : ¬ (i : Int) > 0 := by omega
        rw [decide_eq_false hi', cond_false, if_neg hi, hj _ (by omega)]
  · unfold impl_WorldText
    rw [impl_WorldText_l2_w u p0 _ u (by omega) (by omega), wlist_map (g := M.nodeText) p0.fN 0 []]
    · unfold impl_WorldText_l2_f impl_WorldText_j1
      rw [List.nil_append, join_eq (B := 200) (by rw [sz2]; omega) hsz (by rw [List.length_map]; omega) (by omega)]
      rfl
    · intro y hy i s k hs
      unfold impl_WorldText_l2_b
      rw [impl_NodeText_eq hu (hw y hy), Option.bind_some, chk_row s _ hs]
      rfl
    · simp only [List.length_nil]; omega
theorem WorldText_law (p0 : World) (h : World.wf p0 ∧ True) : laws_FnExactWorldText 1099511627776 p0 = some true := by
  obtain ⟨w0, _⟩ := h
  have hu : 1099511627776 ≤ 1099511627776 := Nat.le_refl _
  unfold laws_FnExactWorldText
  rw [laws_szWorld_eq hu (x := p0) (n := 1048576) (by omega) (by omega) w0]
  simp only [Option.bind_some]
  by_cases b0 : ((World.bulk p0 : Nat) : Int) ≤ 1048576
  · have c0 : ¬ (1048576 - ((World.bulk p0 : Nat) : Int) < 0) := by omega
    rw [leftI_pos b0]
    simp only [c0, decide_false, cond_false]
    obtain ⟨v, e1, e2⟩ := WorldText_same hu w0 (show _ ≤ 1048576 by omega)
    simp only [laws_toWorld_eq hu (x := p0) (by omega), laws_eqWorld_eq hu (x := p0) (by omega), e1, e2, Option.bind_some, bne_self_eq_false, beq_self_eq_true, Bool.not_true, cond_false]
  · rw [leftI_neg b0]; rfl
end Go.Tm.Pu
