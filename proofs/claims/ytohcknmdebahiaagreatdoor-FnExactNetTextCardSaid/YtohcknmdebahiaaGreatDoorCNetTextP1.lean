/- Plain laws of the functions. -/
import Derived.Test.YtohcknmdebahiaaGreatDoorCNetTextD
import Derived.Test.YtohcknmdebahiaaGreatDoorPu2
set_option linter.unusedVariables false
set_option linter.unusedSimpArgs false
namespace Go.Tm.Pu
open Go.Tm
theorem laws_szByteS_eq {u : Nat} (hu : 1099511627776 ≤ u) {x : List Int} {n : Int} (h0 : 0 ≤ n) (h1 : n ≤ 1048576) (hw : (wSl (wInt .u8)) x) : laws_szByteS u x n = some (leftI n x.length) := left_len h0 h1 hw.1
theorem laws_toByteS_eq {u : Nat} (hu : 1099511627776 ≤ u) {x : List Int} (h : x.length ≤ 68719476736) : laws_toByteS u x = some x := by
  have hlen : x.length ≤ 68719476736 := by omega
  unfold laws_toByteS
  rw [chk_len, chk_dec (by rw [Int.toNat_natCast]; omega)]
  simp only [Option.bind_some, Int.toNat_natCast]
  rw [laws_toByteS_l2_w u x _ u (by omega) (by omega), wlist_copy0]
  · rfl
  · intro y i s k hx hi
    unfold laws_toByteS_l2_b
    rw [idx_nat, List.getElem?_eq_getElem hi]; simp
theorem laws_eqByteS_eq {u : Nat} (hu : 1099511627776 ≤ u) {x : List Int} (h : x.length ≤ 68719476736) : laws_eqByteS u x x = some true := by
  have hlen : x.length ≤ 68719476736 := by omega
  unfold laws_eqByteS
  simp only [bne_self_eq_false, cond_false]
  rw [laws_eqByteS_l2_w u x x () u (by omega) (by omega), wlist_all (xs := x) _ x 0 (by simp)]
  · rfl
  · intro y i k hx
    unfold laws_eqByteS_l2_b
    rw [idx_nat, hx]; simp
theorem laws_toRecord_eq (u : Nat) (x : Record) : laws_toRecord u x = some x := by
  unfold laws_toRecord
  rfl
theorem laws_eqRecord_eq (u : Nat) (x : Record) : laws_eqRecord u x x = some true := by
  unfold laws_eqRecord
  simp []
def Put.bulk (x : Put) : Nat := x.fB.length
theorem laws_szPut_eq {u : Nat} (hu : 1099511627776 ≤ u) {x : Put} {n : Int} (h0 : 0 ≤ n) (h1 : n ≤ 1048576) (hw : Put.wf x) : laws_szPut u x n = some (leftI n (Put.bulk x)) := by
  unfold laws_szPut Put.bulk
  rw [laws_szByteS_eq hu h0 h1 hw.2.2.1]
  simp only [Option.bind_some]
  exact left_last
theorem laws_toPut_eq {u : Nat} (hu : 1099511627776 ≤ u) {x : Put} (h : Put.bulk x ≤ 68719476736) : laws_toPut u x = some x := by
  unfold Put.bulk at h
  unfold laws_toPut
  rw [laws_toByteS_eq hu (by omega), laws_toRecord_eq u _]; rfl
theorem laws_eqPut_eq {u : Nat} (hu : 1099511627776 ≤ u) {x : Put} (h : Put.bulk x ≤ 68719476736) : laws_eqPut u x x = some true := by
  unfold Put.bulk at h
  unfold laws_eqPut
  simp [laws_eqByteS_eq hu (x := x.fB) (by omega), laws_eqRecord_eq]
theorem laws_toKid_eq (u : Nat) (x : Kid) : laws_toKid u x = some x := by
  unfold laws_toKid
  rfl
theorem laws_eqKid_eq (u : Nat) (x : Kid) : laws_eqKid u x x = some true := by
  unfold laws_eqKid
  simp []
theorem laws_toSum_eq (u : Nat) (x : Sum) : laws_toSum u x = some x := by
  unfold laws_toSum
  rfl
theorem laws_eqSum_eq (u : Nat) (x : Sum) : laws_eqSum u x x = some true := by
  unfold laws_eqSum
  simp []
theorem laws_szIntS_eq {u : Nat} (hu : 1099511627776 ≤ u) {x : List Int} {n : Int} (h0 : 0 ≤ n) (h1 : n ≤ 1048576) (hw : (wSl (wInt .i64)) x) : laws_szIntS u x n = some (leftI n x.length) := left_len h0 h1 hw.1
theorem laws_toIntS_eq {u : Nat} (hu : 1099511627776 ≤ u) {x : List Int} (h : x.length ≤ 68719476736) : laws_toIntS u x = some x := by
  have hlen : x.length ≤ 68719476736 := by omega
  unfold laws_toIntS
  rw [chk_len, chk_dec (by rw [Int.toNat_natCast]; omega)]
  simp only [Option.bind_some, Int.toNat_natCast]
  rw [laws_toIntS_l2_w u x _ u (by omega) (by omega), wlist_copy0]
  · rfl
  · intro y i s k hx hi
    unfold laws_toIntS_l2_b
    rw [idx_nat, List.getElem?_eq_getElem hi]; simp
theorem laws_eqIntS_eq {u : Nat} (hu : 1099511627776 ≤ u) {x : List Int} (h : x.length ≤ 68719476736) : laws_eqIntS u x x = some true := by
  have hlen : x.length ≤ 68719476736 := by omega
  unfold laws_eqIntS
  simp only [bne_self_eq_false, cond_false]
  rw [laws_eqIntS_l2_w u x x () u (by omega) (by omega), wlist_all (xs := x) _ x 0 (by simp)]
  · rfl
  · intro y i k hx
    unfold laws_eqIntS_l2_b
    rw [idx_nat, hx]; simp
def Tree.bulk (x : Tree) : Nat := x.fUp.length
theorem laws_szTree_eq {u : Nat} (hu : 1099511627776 ≤ u) {x : Tree} {n : Int} (h0 : 0 ≤ n) (h1 : n ≤ 1048576) (hw : Tree.wf x) : laws_szTree u x n = some (leftI n (Tree.bulk x)) := by
  unfold laws_szTree Tree.bulk
  rw [laws_szIntS_eq hu h0 h1 hw.1]
  simp only [Option.bind_some]
  exact left_last
theorem laws_toTree_eq {u : Nat} (hu : 1099511627776 ≤ u) {x : Tree} (h : Tree.bulk x ≤ 68719476736) : laws_toTree u x = some x := by
  unfold Tree.bulk at h
  unfold laws_toTree
  rw [laws_toIntS_eq hu (by omega)]; rfl
theorem laws_eqTree_eq {u : Nat} (hu : 1099511627776 ≤ u) {x : Tree} (h : Tree.bulk x ≤ 68719476736) : laws_eqTree u x x = some true := by
  unfold Tree.bulk at h
  unfold laws_eqTree
  simp [laws_eqIntS_eq hu (x := x.fUp) (by omega)]
theorem laws_toConf_eq (u : Nat) (x : Conf) : laws_toConf u x = some x := by
  unfold laws_toConf
  rfl
theorem laws_eqConf_eq (u : Nat) (x : Conf) : laws_eqConf u x x = some true := by
  unfold laws_eqConf
  simp []
theorem laws_szSumS_eq {u : Nat} (hu : 1099511627776 ≤ u) {x : List Sum} {n : Int} (h0 : 0 ≤ n) (h1 : n ≤ 1048576) (hw : (wSl Sum.wf) x) : laws_szSumS u x n = some (leftI n x.length) := left_len h0 h1 hw.1
theorem laws_toSumS_eq {u : Nat} (hu : 1099511627776 ≤ u) {x : List Sum} (h : x.length ≤ 68719476736) : laws_toSumS u x = some x := by
  have hlen : x.length ≤ 68719476736 := by omega
  unfold laws_toSumS
  rw [chk_len, chk_dec (by rw [Int.toNat_natCast]; omega)]
  simp only [Option.bind_some, Int.toNat_natCast]
  rw [laws_toSumS_l2_w u x _ u (by omega) (by omega), wlist_copy0]
  · rfl
  · intro y i s k hx hi
    unfold laws_toSumS_l2_b
    rw [laws_toSum_eq u _]
    rw [idx_nat, List.getElem?_eq_getElem hi]; simp
theorem laws_eqSumS_eq {u : Nat} (hu : 1099511627776 ≤ u) {x : List Sum} (h : x.length ≤ 68719476736) : laws_eqSumS u x x = some true := by
  have hlen : x.length ≤ 68719476736 := by omega
  unfold laws_eqSumS
  simp only [bne_self_eq_false, cond_false]
  rw [laws_eqSumS_l2_w u x x () u (by omega) (by omega), wlist_all (xs := x) _ x 0 (by simp)]
  · rfl
  · intro y i k hx
    unfold laws_eqSumS_l2_b
    rw [idx_nat, hx]
    simp only [Option.bind_some]
    rw [laws_eqSum_eq]; simp
def Manifest.bulk (x : Manifest) : Nat := x.fSums.length
theorem laws_szManifest_eq {u : Nat} (hu : 1099511627776 ≤ u) {x : Manifest} {n : Int} (h0 : 0 ≤ n) (h1 : n ≤ 1048576) (hw : Manifest.wf x) : laws_szManifest u x n = some (leftI n (Manifest.bulk x)) := by
  unfold laws_szManifest Manifest.bulk
  rw [laws_szSumS_eq hu h0 h1 hw.2.2.2.1]
  simp only [Option.bind_some]
  exact left_last
theorem laws_toManifest_eq {u : Nat} (hu : 1099511627776 ≤ u) {x : Manifest} (h : Manifest.bulk x ≤ 68719476736) : laws_toManifest u x = some x := by
  unfold Manifest.bulk at h
  unfold laws_toManifest
  rw [laws_toSumS_eq hu (by omega)]; rfl
theorem laws_eqManifest_eq {u : Nat} (hu : 1099511627776 ≤ u) {x : Manifest} (h : Manifest.bulk x ≤ 68719476736) : laws_eqManifest u x x = some true := by
  unfold Manifest.bulk at h
  unfold laws_eqManifest
  simp [laws_eqSumS_eq hu (x := x.fSums) (by omega)]
def Build.bulk (x : Build) : Nat := x.fBuf.length
theorem laws_szBuild_eq {u : Nat} (hu : 1099511627776 ≤ u) {x : Build} {n : Int} (h0 : 0 ≤ n) (h1 : n ≤ 1048576) (hw : Build.wf x) : laws_szBuild u x n = some (leftI n (Build.bulk x)) := by
  unfold laws_szBuild Build.bulk
  rw [laws_szByteS_eq hu h0 h1 hw.2.1]
  simp only [Option.bind_some]
  exact left_last
theorem laws_toBuild_eq {u : Nat} (hu : 1099511627776 ≤ u) {x : Build} (h : Build.bulk x ≤ 68719476736) : laws_toBuild u x = some x := by
  unfold Build.bulk at h
  unfold laws_toBuild
  rw [laws_toByteS_eq hu (by omega)]; rfl
theorem laws_eqBuild_eq {u : Nat} (hu : 1099511627776 ≤ u) {x : Build} (h : Build.bulk x ≤ 68719476736) : laws_eqBuild u x x = some true := by
  unfold Build.bulk at h
  unfold laws_eqBuild
  simp [laws_eqByteS_eq hu (x := x.fBuf) (by omega)]
theorem laws_szKidS_eq {u : Nat} (hu : 1099511627776 ≤ u) {x : List Kid} {n : Int} (h0 : 0 ≤ n) (h1 : n ≤ 1048576) (hw : (wSl Kid.wf) x) : laws_szKidS u x n = some (leftI n x.length) := left_len h0 h1 hw.1
theorem laws_toKidS_eq {u : Nat} (hu : 1099511627776 ≤ u) {x : List Kid} (h : x.length ≤ 68719476736) : laws_toKidS u x = some x := by
  have hlen : x.length ≤ 68719476736 := by omega
  unfold laws_toKidS
  rw [chk_len, chk_dec (by rw [Int.toNat_natCast]; omega)]
  simp only [Option.bind_some, Int.toNat_natCast]
  rw [laws_toKidS_l2_w u x _ u (by omega) (by omega), wlist_copy0]
  · rfl
  · intro y i s k hx hi
    unfold laws_toKidS_l2_b
    rw [laws_toKid_eq u _]
    rw [idx_nat, List.getElem?_eq_getElem hi]; simp
theorem laws_eqKidS_eq {u : Nat} (hu : 1099511627776 ≤ u) {x : List Kid} (h : x.length ≤ 68719476736) : laws_eqKidS u x x = some true := by
  have hlen : x.length ≤ 68719476736 := by omega
  unfold laws_eqKidS
  simp only [bne_self_eq_false, cond_false]
  rw [laws_eqKidS_l2_w u x x () u (by omega) (by omega), wlist_all (xs := x) _ x 0 (by simp)]
  · rfl
  · intro y i k hx
    unfold laws_eqKidS_l2_b
    rw [idx_nat, hx]
    simp only [Option.bind_some]
    rw [laws_eqKid_eq]; simp
def Node.bulk (x : Node) : Nat := Manifest.bulk x.fMan + (Build.bulk x.fBld + (x.fKids.length))
theorem laws_szNode_eq {u : Nat} (hu : 1099511627776 ≤ u) {x : Node} {n : Int} (h0 : 0 ≤ n) (h1 : n ≤ 1048576) (hw : Node.wf x) : laws_szNode u x n = some (leftI n (Node.bulk x)) := by
  unfold laws_szNode Node.bulk
  rw [laws_szManifest_eq hu h0 h1 hw.2.2.2.1]
  simp only [Option.bind_some]
  exact left_step (c := Build.bulk x.fBld + (x.fKids.length)) (f := fun r => (laws_szBuild u x.fBld r).bind fun r1 => bif decide (r1 < 0) then some (-1) else ((laws_szKidS u x.fKids r1).bind fun r2 => bif decide (r2 < 0) then some (-1) else (some r2))) (fun v0 h2v0 h3v0 => by rw [laws_szBuild_eq hu h2v0 (by omega) hw.2.2.2.2.1]; simp only [Option.bind_some]; exact left_step (c := x.fKids.length) (f := fun r => (laws_szKidS u x.fKids r).bind fun r2 => bif decide (r2 < 0) then some (-1) else (some r2)) (fun v1 h2v1 h3v1 => by rw [laws_szKidS_eq hu h2v1 (by omega) hw.2.2.2.2.2.2.1]; simp only [Option.bind_some]; exact left_last) h2v0) h0
theorem laws_toNode_eq {u : Nat} (hu : 1099511627776 ≤ u) {x : Node} (h : Node.bulk x ≤ 68719476736) : laws_toNode u x = some x := by
  unfold Node.bulk at h
  unfold laws_toNode
  rw [laws_toManifest_eq hu (by omega), laws_toBuild_eq hu (by omega), laws_toKidS_eq hu (by omega)]; rfl
theorem laws_eqNode_eq {u : Nat} (hu : 1099511627776 ≤ u) {x : Node} (h : Node.bulk x ≤ 68719476736) : laws_eqNode u x x = some true := by
  unfold Node.bulk at h
  unfold laws_eqNode
  simp [laws_eqManifest_eq hu (x := x.fMan) (by omega), laws_eqBuild_eq hu (x := x.fBld) (by omega), laws_eqKidS_eq hu (x := x.fKids) (by omega)]
theorem laws_szPutS_eq {u : Nat} (hu : 1099511627776 ≤ u) {x : List Put} {n : Int} (h0 : 0 ≤ n) (h1 : n ≤ 1048576) (hw : (wSl Put.wf) x) : laws_szPutS u x n = some (leftI n (bulkL Put.bulk x)) :=
  left_list (c := sumL Put.bulk x) (f := fun r => laws_szPutS_l2 u u x r 0) (fun hm r h2 h3 => by
    rw [laws_szPutS_l2_w u x r u (by omega) (by omega)]
    exact wlist_sz (f := Put.bulk) (fun s => rfl) (fun y i s k hy hs0 hs1 => by unfold laws_szPutS_l2_b; rw [laws_szPut_eq hu hs0 hs1 (hw.2 y hy)]; rfl) x 0 r (fun _ h => h) h2 (by omega)) h0 h1 hw.1
theorem laws_toPutS_eq {u : Nat} (hu : 1099511627776 ≤ u) {x : List Put} (h : Pu.bulkL Put.bulk x ≤ 68719476736) : laws_toPutS u x = some x := by
  have hlen : x.length ≤ 68719476736 := by have := bulkL_len (f := Put.bulk) x; omega
  unfold laws_toPutS
  rw [chk_len, chk_dec (by rw [Int.toNat_natCast]; omega)]
  simp only [Option.bind_some, Int.toNat_natCast]
  rw [laws_toPutS_l2_w u x _ u (by omega) (by omega), wlist_copy0]
  · rfl
  · intro y i s k hx hi
    unfold laws_toPutS_l2_b
    rw [laws_toPut_eq hu (Nat.le_trans (bulkL_mem (f := Put.bulk) hx) h)]
    rw [idx_nat, List.getElem?_eq_getElem hi]; simp
theorem laws_eqPutS_eq {u : Nat} (hu : 1099511627776 ≤ u) {x : List Put} (h : Pu.bulkL Put.bulk x ≤ 68719476736) : laws_eqPutS u x x = some true := by
  have hlen : x.length ≤ 68719476736 := by have := bulkL_len (f := Put.bulk) x; omega
  unfold laws_eqPutS
  simp only [bne_self_eq_false, cond_false]
  rw [laws_eqPutS_l2_w u x x () u (by omega) (by omega), wlist_all (xs := x) _ x 0 (by simp)]
  · rfl
  · intro y i k hx
    unfold laws_eqPutS_l2_b
    rw [idx_nat, hx]
    simp only [Option.bind_some]
    rw [laws_eqPut_eq hu (Nat.le_trans (bulkL_mem (f := Put.bulk) (List.mem_of_getElem? hx)) h)]; simp
def Disk.bulk (x : Disk) : Nat := x.fA.length + (x.fB.length + (Pu.bulkL Put.bulk x.fP))
theorem laws_szDisk_eq {u : Nat} (hu : 1099511627776 ≤ u) {x : Disk} {n : Int} (h0 : 0 ≤ n) (h1 : n ≤ 1048576) (hw : Disk.wf x) : laws_szDisk u x n = some (leftI n (Disk.bulk x)) := by
  unfold laws_szDisk Disk.bulk
  rw [laws_szByteS_eq hu h0 h1 hw.1]
  simp only [Option.bind_some]
  exact left_step (c := x.fB.length + (Pu.bulkL Put.bulk x.fP)) (f := fun r => (laws_szByteS u x.fB r).bind fun r1 => bif decide (r1 < 0) then some (-1) else ((laws_szPutS u x.fP r1).bind fun r2 => bif decide (r2 < 0) then some (-1) else (some r2))) (fun v0 h2v0 h3v0 => by rw [laws_szByteS_eq hu h2v0 (by omega) hw.2.1]; simp only [Option.bind_some]; exact left_step (c := Pu.bulkL Put.bulk x.fP) (f := fun r => (laws_szPutS u x.fP r).bind fun r2 => bif decide (r2 < 0) then some (-1) else (some r2)) (fun v1 h2v1 h3v1 => by rw [laws_szPutS_eq hu h2v1 (by omega) hw.2.2.2.1]; simp only [Option.bind_some]; exact left_last) h2v0) h0
theorem laws_toDisk_eq {u : Nat} (hu : 1099511627776 ≤ u) {x : Disk} (h : Disk.bulk x ≤ 68719476736) : laws_toDisk u x = some x := by
  unfold Disk.bulk at h
  unfold laws_toDisk
  rw [laws_toByteS_eq hu (by omega), laws_toByteS_eq hu (by omega), laws_toRecord_eq u _, laws_toPutS_eq hu (by omega)]; rfl
theorem laws_eqDisk_eq {u : Nat} (hu : 1099511627776 ≤ u) {x : Disk} (h : Disk.bulk x ≤ 68719476736) : laws_eqDisk u x x = some true := by
  unfold Disk.bulk at h
  unfold laws_eqDisk
  simp [laws_eqByteS_eq hu (x := x.fA) (by omega), laws_eqByteS_eq hu (x := x.fB) (by omega), laws_eqRecord_eq, laws_eqPutS_eq hu (x := x.fP) (by omega)]
theorem laws_toSent_eq (u : Nat) (x : Sent) : laws_toSent u x = some x := by
  unfold laws_toSent
  rfl
theorem laws_eqSent_eq (u : Nat) (x : Sent) : laws_eqSent u x x = some true := by
  unfold laws_eqSent
  simp []
def Image.bulk (x : Image) : Nat := x.fB.length
theorem laws_szImage_eq {u : Nat} (hu : 1099511627776 ≤ u) {x : Image} {n : Int} (h0 : 0 ≤ n) (h1 : n ≤ 1048576) (hw : Image.wf x) : laws_szImage u x n = some (leftI n (Image.bulk x)) := by
  unfold laws_szImage Image.bulk
  rw [laws_szByteS_eq hu h0 h1 hw.1]
  simp only [Option.bind_some]
  exact left_last
theorem laws_toImage_eq {u : Nat} (hu : 1099511627776 ≤ u) {x : Image} (h : Image.bulk x ≤ 68719476736) : laws_toImage u x = some x := by
  unfold Image.bulk at h
  unfold laws_toImage
  rw [laws_toByteS_eq hu (by omega)]; rfl
theorem laws_eqImage_eq {u : Nat} (hu : 1099511627776 ≤ u) {x : Image} (h : Image.bulk x ≤ 68719476736) : laws_eqImage u x x = some true := by
  unfold Image.bulk at h
  unfold laws_eqImage
  simp [laws_eqByteS_eq hu (x := x.fB) (by omega)]
theorem laws_szImageS_eq {u : Nat} (hu : 1099511627776 ≤ u) {x : List Image} {n : Int} (h0 : 0 ≤ n) (h1 : n ≤ 1048576) (hw : (wSl Image.wf) x) : laws_szImageS u x n = some (leftI n (bulkL Image.bulk x)) :=
  left_list (c := sumL Image.bulk x) (f := fun r => laws_szImageS_l2 u u x r 0) (fun hm r h2 h3 => by
    rw [laws_szImageS_l2_w u x r u (by omega) (by omega)]
    exact wlist_sz (f := Image.bulk) (fun s => rfl) (fun y i s k hy hs0 hs1 => by unfold laws_szImageS_l2_b; rw [laws_szImage_eq hu hs0 hs1 (hw.2 y hy)]; rfl) x 0 r (fun _ h => h) h2 (by omega)) h0 h1 hw.1
theorem laws_toImageS_eq {u : Nat} (hu : 1099511627776 ≤ u) {x : List Image} (h : Pu.bulkL Image.bulk x ≤ 68719476736) : laws_toImageS u x = some x := by
  have hlen : x.length ≤ 68719476736 := by have := bulkL_len (f := Image.bulk) x; omega
  unfold laws_toImageS
  rw [chk_len, chk_dec (by rw [Int.toNat_natCast]; omega)]
  simp only [Option.bind_some, Int.toNat_natCast]
  rw [laws_toImageS_l2_w u x _ u (by omega) (by omega), wlist_copy0]
  · rfl
  · intro y i s k hx hi
    unfold laws_toImageS_l2_b
    rw [laws_toImage_eq hu (Nat.le_trans (bulkL_mem (f := Image.bulk) hx) h)]
    rw [idx_nat, List.getElem?_eq_getElem hi]; simp
theorem laws_eqImageS_eq {u : Nat} (hu : 1099511627776 ≤ u) {x : List Image} (h : Pu.bulkL Image.bulk x ≤ 68719476736) : laws_eqImageS u x x = some true := by
  have hlen : x.length ≤ 68719476736 := by have := bulkL_len (f := Image.bulk) x; omega
  unfold laws_eqImageS
  simp only [bne_self_eq_false, cond_false]
  rw [laws_eqImageS_l2_w u x x () u (by omega) (by omega), wlist_all (xs := x) _ x 0 (by simp)]
  · rfl
  · intro y i k hx
    unfold laws_eqImageS_l2_b
    rw [idx_nat, hx]
    simp only [Option.bind_some]
    rw [laws_eqImage_eq hu (Nat.le_trans (bulkL_mem (f := Image.bulk) (List.mem_of_getElem? hx)) h)]; simp
theorem laws_szNodeS_eq {u : Nat} (hu : 1099511627776 ≤ u) {x : List Node} {n : Int} (h0 : 0 ≤ n) (h1 : n ≤ 1048576) (hw : (wSl Node.wf) x) : laws_szNodeS u x n = some (leftI n (bulkL Node.bulk x)) :=
  left_list (c := sumL Node.bulk x) (f := fun r => laws_szNodeS_l2 u u x r 0) (fun hm r h2 h3 => by
    rw [laws_szNodeS_l2_w u x r u (by omega) (by omega)]
    exact wlist_sz (f := Node.bulk) (fun s => rfl) (fun y i s k hy hs0 hs1 => by unfold laws_szNodeS_l2_b; rw [laws_szNode_eq hu hs0 hs1 (hw.2 y hy)]; rfl) x 0 r (fun _ h => h) h2 (by omega)) h0 h1 hw.1
theorem laws_toNodeS_eq {u : Nat} (hu : 1099511627776 ≤ u) {x : List Node} (h : Pu.bulkL Node.bulk x ≤ 68719476736) : laws_toNodeS u x = some x := by
  have hlen : x.length ≤ 68719476736 := by have := bulkL_len (f := Node.bulk) x; omega
  unfold laws_toNodeS
  rw [chk_len, chk_dec (by rw [Int.toNat_natCast]; omega)]
  simp only [Option.bind_some, Int.toNat_natCast]
  rw [laws_toNodeS_l2_w u x _ u (by omega) (by omega), wlist_copy0]
  · rfl
  · intro y i s k hx hi
    unfold laws_toNodeS_l2_b
    rw [laws_toNode_eq hu (Nat.le_trans (bulkL_mem (f := Node.bulk) hx) h)]
    rw [idx_nat, List.getElem?_eq_getElem hi]; simp
theorem laws_eqNodeS_eq {u : Nat} (hu : 1099511627776 ≤ u) {x : List Node} (h : Pu.bulkL Node.bulk x ≤ 68719476736) : laws_eqNodeS u x x = some true := by
  have hlen : x.length ≤ 68719476736 := by have := bulkL_len (f := Node.bulk) x; omega
  unfold laws_eqNodeS
  simp only [bne_self_eq_false, cond_false]
  rw [laws_eqNodeS_l2_w u x x () u (by omega) (by omega), wlist_all (xs := x) _ x 0 (by simp)]
  · rfl
  · intro y i k hx
    unfold laws_eqNodeS_l2_b
    rw [idx_nat, hx]
    simp only [Option.bind_some]
    rw [laws_eqNode_eq hu (Nat.le_trans (bulkL_mem (f := Node.bulk) (List.mem_of_getElem? hx)) h)]; simp
theorem laws_szDiskS_eq {u : Nat} (hu : 1099511627776 ≤ u) {x : List Disk} {n : Int} (h0 : 0 ≤ n) (h1 : n ≤ 1048576) (hw : (wSl Disk.wf) x) : laws_szDiskS u x n = some (leftI n (bulkL Disk.bulk x)) :=
  left_list (c := sumL Disk.bulk x) (f := fun r => laws_szDiskS_l2 u u x r 0) (fun hm r h2 h3 => by
    rw [laws_szDiskS_l2_w u x r u (by omega) (by omega)]
    exact wlist_sz (f := Disk.bulk) (fun s => rfl) (fun y i s k hy hs0 hs1 => by unfold laws_szDiskS_l2_b; rw [laws_szDisk_eq hu hs0 hs1 (hw.2 y hy)]; rfl) x 0 r (fun _ h => h) h2 (by omega)) h0 h1 hw.1
theorem laws_toDiskS_eq {u : Nat} (hu : 1099511627776 ≤ u) {x : List Disk} (h : Pu.bulkL Disk.bulk x ≤ 68719476736) : laws_toDiskS u x = some x := by
  have hlen : x.length ≤ 68719476736 := by have := bulkL_len (f := Disk.bulk) x; omega
  unfold laws_toDiskS
  rw [chk_len, chk_dec (by rw [Int.toNat_natCast]; omega)]
  simp only [Option.bind_some, Int.toNat_natCast]
  rw [laws_toDiskS_l2_w u x _ u (by omega) (by omega), wlist_copy0]
  · rfl
  · intro y i s k hx hi
    unfold laws_toDiskS_l2_b
    rw [laws_toDisk_eq hu (Nat.le_trans (bulkL_mem (f := Disk.bulk) hx) h)]
    rw [idx_nat, List.getElem?_eq_getElem hi]; simp
theorem laws_eqDiskS_eq {u : Nat} (hu : 1099511627776 ≤ u) {x : List Disk} (h : Pu.bulkL Disk.bulk x ≤ 68719476736) : laws_eqDiskS u x x = some true := by
  have hlen : x.length ≤ 68719476736 := by have := bulkL_len (f := Disk.bulk) x; omega
  unfold laws_eqDiskS
  simp only [bne_self_eq_false, cond_false]
  rw [laws_eqDiskS_l2_w u x x () u (by omega) (by omega), wlist_all (xs := x) _ x 0 (by simp)]
  · rfl
  · intro y i k hx
    unfold laws_eqDiskS_l2_b
    rw [idx_nat, hx]
    simp only [Option.bind_some]
    rw [laws_eqDisk_eq hu (Nat.le_trans (bulkL_mem (f := Disk.bulk) (List.mem_of_getElem? hx)) h)]; simp
def Packet.bulk (x : Packet) : Nat := x.fB.length
theorem laws_szPacket_eq {u : Nat} (hu : 1099511627776 ≤ u) {x : Packet} {n : Int} (h0 : 0 ≤ n) (h1 : n ≤ 1048576) (hw : Packet.wf x) : laws_szPacket u x n = some (leftI n (Packet.bulk x)) := by
  unfold laws_szPacket Packet.bulk
  rw [laws_szByteS_eq hu h0 h1 hw.2.2.1]
  simp only [Option.bind_some]
  exact left_last
theorem laws_toPacket_eq {u : Nat} (hu : 1099511627776 ≤ u) {x : Packet} (h : Packet.bulk x ≤ 68719476736) : laws_toPacket u x = some x := by
  unfold Packet.bulk at h
  unfold laws_toPacket
  rw [laws_toByteS_eq hu (by omega)]; rfl
theorem laws_eqPacket_eq {u : Nat} (hu : 1099511627776 ≤ u) {x : Packet} (h : Packet.bulk x ≤ 68719476736) : laws_eqPacket u x x = some true := by
  unfold Packet.bulk at h
  unfold laws_eqPacket
  simp [laws_eqByteS_eq hu (x := x.fB) (by omega)]
theorem laws_szPacketS_eq {u : Nat} (hu : 1099511627776 ≤ u) {x : List Packet} {n : Int} (h0 : 0 ≤ n) (h1 : n ≤ 1048576) (hw : (wSl Packet.wf) x) : laws_szPacketS u x n = some (leftI n (bulkL Packet.bulk x)) :=
  left_list (c := sumL Packet.bulk x) (f := fun r => laws_szPacketS_l2 u u x r 0) (fun hm r h2 h3 => by
    rw [laws_szPacketS_l2_w u x r u (by omega) (by omega)]
    exact wlist_sz (f := Packet.bulk) (fun s => rfl) (fun y i s k hy hs0 hs1 => by unfold laws_szPacketS_l2_b; rw [laws_szPacket_eq hu hs0 hs1 (hw.2 y hy)]; rfl) x 0 r (fun _ h => h) h2 (by omega)) h0 h1 hw.1
theorem laws_toPacketS_eq {u : Nat} (hu : 1099511627776 ≤ u) {x : List Packet} (h : Pu.bulkL Packet.bulk x ≤ 68719476736) : laws_toPacketS u x = some x := by
  have hlen : x.length ≤ 68719476736 := by have := bulkL_len (f := Packet.bulk) x; omega
  unfold laws_toPacketS
  rw [chk_len, chk_dec (by rw [Int.toNat_natCast]; omega)]
  simp only [Option.bind_some, Int.toNat_natCast]
  rw [laws_toPacketS_l2_w u x _ u (by omega) (by omega), wlist_copy0]
  · rfl
  · intro y i s k hx hi
    unfold laws_toPacketS_l2_b
    rw [laws_toPacket_eq hu (Nat.le_trans (bulkL_mem (f := Packet.bulk) hx) h)]
    rw [idx_nat, List.getElem?_eq_getElem hi]; simp
theorem laws_eqPacketS_eq {u : Nat} (hu : 1099511627776 ≤ u) {x : List Packet} (h : Pu.bulkL Packet.bulk x ≤ 68719476736) : laws_eqPacketS u x x = some true := by
  have hlen : x.length ≤ 68719476736 := by have := bulkL_len (f := Packet.bulk) x; omega
  unfold laws_eqPacketS
  simp only [bne_self_eq_false, cond_false]
  rw [laws_eqPacketS_l2_w u x x () u (by omega) (by omega), wlist_all (xs := x) _ x 0 (by simp)]
  · rfl
  · intro y i k hx
    unfold laws_eqPacketS_l2_b
    rw [idx_nat, hx]
    simp only [Option.bind_some]
    rw [laws_eqPacket_eq hu (Nat.le_trans (bulkL_mem (f := Packet.bulk) (List.mem_of_getElem? hx)) h)]; simp
theorem laws_szSentS_eq {u : Nat} (hu : 1099511627776 ≤ u) {x : List Sent} {n : Int} (h0 : 0 ≤ n) (h1 : n ≤ 1048576) (hw : (wSl Sent.wf) x) : laws_szSentS u x n = some (leftI n x.length) := left_len h0 h1 hw.1
theorem laws_toSentS_eq {u : Nat} (hu : 1099511627776 ≤ u) {x : List Sent} (h : x.length ≤ 68719476736) : laws_toSentS u x = some x := by
  have hlen : x.length ≤ 68719476736 := by omega
  unfold laws_toSentS
  rw [chk_len, chk_dec (by rw [Int.toNat_natCast]; omega)]
  simp only [Option.bind_some, Int.toNat_natCast]
  rw [laws_toSentS_l2_w u x _ u (by omega) (by omega), wlist_copy0]
  · rfl
  · intro y i s k hx hi
    unfold laws_toSentS_l2_b
    rw [laws_toSent_eq u _]
    rw [idx_nat, List.getElem?_eq_getElem hi]; simp
theorem laws_eqSentS_eq {u : Nat} (hu : 1099511627776 ≤ u) {x : List Sent} (h : x.length ≤ 68719476736) : laws_eqSentS u x x = some true := by
  have hlen : x.length ≤ 68719476736 := by omega
  unfold laws_eqSentS
  simp only [bne_self_eq_false, cond_false]
  rw [laws_eqSentS_l2_w u x x () u (by omega) (by omega), wlist_all (xs := x) _ x 0 (by simp)]
  · rfl
  · intro y i k hx
    unfold laws_eqSentS_l2_b
    rw [idx_nat, hx]
    simp only [Option.bind_some]
    rw [laws_eqSent_eq]; simp
def World.bulk (x : World) : Nat := Tree.bulk x.fT + (x.fNew.length + (Pu.bulkL Image.bulk x.fOld + (Pu.bulkL Node.bulk x.fN + (Pu.bulkL Disk.bulk x.fD + (Pu.bulkL Packet.bulk x.fNet + (x.fLog.length))))))
theorem laws_szWorld_eq {u : Nat} (hu : 1099511627776 ≤ u) {x : World} {n : Int} (h0 : 0 ≤ n) (h1 : n ≤ 1048576) (hw : World.wf x) : laws_szWorld u x n = some (leftI n (World.bulk x)) := by
  unfold laws_szWorld World.bulk
  rw [laws_szTree_eq hu h0 h1 hw.2.1]
  simp only [Option.bind_some]
  exact left_step (c := x.fNew.length + (Pu.bulkL Image.bulk x.fOld + (Pu.bulkL Node.bulk x.fN + (Pu.bulkL Disk.bulk x.fD + (Pu.bulkL Packet.bulk x.fNet + (x.fLog.length)))))) (f := fun r => (laws_szByteS u x.fNew r).bind fun r1 => bif decide (r1 < 0) then some (-1) else ((laws_szImageS u x.fOld r1).bind fun r2 => bif decide (r2 < 0) then some (-1) else ((laws_szNodeS u x.fN r2).bind fun r3 => bif decide (r3 < 0) then some (-1) else ((laws_szDiskS u x.fD r3).bind fun r4 => bif decide (r4 < 0) then some (-1) else ((laws_szPacketS u x.fNet r4).bind fun r5 => bif decide (r5 < 0) then some (-1) else ((laws_szSentS u x.fLog r5).bind fun r6 => bif decide (r6 < 0) then some (-1) else (some r6))))))) (fun v0 h2v0 h3v0 => by rw [laws_szByteS_eq hu h2v0 (by omega) hw.2.2.1]; simp only [Option.bind_some]; exact left_step (c := Pu.bulkL Image.bulk x.fOld + (Pu.bulkL Node.bulk x.fN + (Pu.bulkL Disk.bulk x.fD + (Pu.bulkL Packet.bulk x.fNet + (x.fLog.length))))) (f := fun r => (laws_szImageS u x.fOld r).bind fun r2 => bif decide (r2 < 0) then some (-1) else ((laws_szNodeS u x.fN r2).bind fun r3 => bif decide (r3 < 0) then some (-1) else ((laws_szDiskS u x.fD r3).bind fun r4 => bif decide (r4 < 0) then some (-1) else ((laws_szPacketS u x.fNet r4).bind fun r5 => bif decide (r5 < 0) then some (-1) else ((laws_szSentS u x.fLog r5).bind fun r6 => bif decide (r6 < 0) then some (-1) else (some r6)))))) (fun v1 h2v1 h3v1 => by rw [laws_szImageS_eq hu h2v1 (by omega) hw.2.2.2.1]; simp only [Option.bind_some]; exact left_step (c := Pu.bulkL Node.bulk x.fN + (Pu.bulkL Disk.bulk x.fD + (Pu.bulkL Packet.bulk x.fNet + (x.fLog.length)))) (f := fun r => (laws_szNodeS u x.fN r).bind fun r3 => bif decide (r3 < 0) then some (-1) else ((laws_szDiskS u x.fD r3).bind fun r4 => bif decide (r4 < 0) then some (-1) else ((laws_szPacketS u x.fNet r4).bind fun r5 => bif decide (r5 < 0) then some (-1) else ((laws_szSentS u x.fLog r5).bind fun r6 => bif decide (r6 < 0) then some (-1) else (some r6))))) (fun v2 h2v2 h3v2 => by rw [laws_szNodeS_eq hu h2v2 (by omega) hw.2.2.2.2.1]; simp only [Option.bind_some]; exact left_step (c := Pu.bulkL Disk.bulk x.fD + (Pu.bulkL Packet.bulk x.fNet + (x.fLog.length))) (f := fun r => (laws_szDiskS u x.fD r).bind fun r4 => bif decide (r4 < 0) then some (-1) else ((laws_szPacketS u x.fNet r4).bind fun r5 => bif decide (r5 < 0) then some (-1) else ((laws_szSentS u x.fLog r5).bind fun r6 => bif decide (r6 < 0) then some (-1) else (some r6)))) (fun v3 h2v3 h3v3 => by rw [laws_szDiskS_eq hu h2v3 (by omega) hw.2.2.2.2.2.1]; simp only [Option.bind_some]; exact left_step (c := Pu.bulkL Packet.bulk x.fNet + (x.fLog.length)) (f := fun r => (laws_szPacketS u x.fNet r).bind fun r5 => bif decide (r5 < 0) then some (-1) else ((laws_szSentS u x.fLog r5).bind fun r6 => bif decide (r6 < 0) then some (-1) else (some r6))) (fun v4 h2v4 h3v4 => by rw [laws_szPacketS_eq hu h2v4 (by omega) hw.2.2.2.2.2.2.1]; simp only [Option.bind_some]; exact left_step (c := x.fLog.length) (f := fun r => (laws_szSentS u x.fLog r).bind fun r6 => bif decide (r6 < 0) then some (-1) else (some r6)) (fun v5 h2v5 h3v5 => by rw [laws_szSentS_eq hu h2v5 (by omega) hw.2.2.2.2.2.2.2.1]; simp only [Option.bind_some]; exact left_last) h2v4) h2v3) h2v2) h2v1) h2v0) h0
theorem laws_toWorld_eq {u : Nat} (hu : 1099511627776 ≤ u) {x : World} (h : World.bulk x ≤ 68719476736) : laws_toWorld u x = some x := by
  unfold World.bulk at h
  unfold laws_toWorld
  rw [laws_toConf_eq u _, laws_toTree_eq hu (by omega), laws_toByteS_eq hu (by omega), laws_toImageS_eq hu (by omega), laws_toNodeS_eq hu (by omega), laws_toDiskS_eq hu (by omega), laws_toPacketS_eq hu (by omega), laws_toSentS_eq hu (by omega)]; rfl
theorem laws_eqWorld_eq {u : Nat} (hu : 1099511627776 ≤ u) {x : World} (h : World.bulk x ≤ 68719476736) : laws_eqWorld u x x = some true := by
  unfold World.bulk at h
  unfold laws_eqWorld
  simp [laws_eqConf_eq, laws_eqTree_eq hu (x := x.fT) (by omega), laws_eqByteS_eq hu (x := x.fNew) (by omega), laws_eqImageS_eq hu (x := x.fOld) (by omega), laws_eqNodeS_eq hu (x := x.fN) (by omega), laws_eqDiskS_eq hu (x := x.fD) (by omega), laws_eqPacketS_eq hu (x := x.fNet) (by omega), laws_eqSentS_eq hu (x := x.fLog) (by omega)]
def M.num (n : Int) : ByteArray := ⟨(Lib.itoa n).toArray⟩
theorem num_size {n : Int} (h0 : -9223372036854775808 ≤ n) (h1 : n ≤ 9223372036854775807) : (M.num n).size ≤ 21 := by
  have := Lib.itoa_length_le n h0 h1
  simpa [M.num, ByteArray.size] using this
theorem itoa_eq {u : Nat} {n : Int} (h0 : -9223372036854775808 ≤ n) (h1 : n ≤ 9223372036854775807) : strconv_Itoa u n = some (M.num n) := by
  unfold strconv_Itoa M.num
  simp [h0, h1]
theorem impl_NumText_eq {u : Nat} {n : Int} (h0 : -9223372036854775808 ≤ n) (h1 : n ≤ 9223372036854775807) : impl_NumText u n = some (M.num n) := by
  unfold impl_NumText
  rw [itoa_eq h0 h1]; rfl
def M.dg (m : Nat) : List UInt8 := if m = 0 then [] else Lib.decDigits m
theorem dg_step {m : Nat} (h : m ≠ 0) : M.dg m = M.dg (m / 10) ++ [UInt8.ofNat (48 + m % 10)] := by
  unfold M.dg
  rw [if_neg h, Lib.decDigits]
  by_cases h10 : m < 10
  · rw [dif_pos h10, if_pos (by omega), Nat.mod_eq_of_lt h10]; rfl
  · rw [dif_neg h10, if_neg (by omega)]
theorem byte_dig (d : Nat) (h : d < 10) : strOfNums [IntKind.wrap .u8 (bAdd .i64 48 (d : Int))] = ByteArray.mk #[UInt8.ofNat (48 + d)] := by
  have : ∀ d : Fin 10, strOfNums [IntKind.wrap .u8 (bAdd .i64 48 (d.val : Int))] = ByteArray.mk #[UInt8.ofNat (48 + d.val)] := by decide
  exact this ⟨d, h⟩
theorem ba_ext {a b : ByteArray} (h : a.data.toList = b.data.toList) : a = b := by
  cases a; cases b
  congr
  exact Array.toList_inj.1 h
theorem ba_app (a b : ByteArray) : (a ++ b).data.toList = a.data.toList ++ b.data.toList := by
  rw [ByteArray.data_append]; simp
theorem num_l2 {u : Nat} (p0 : Int) (sg : Int) (hs : sg = 1 ∨ sg = -1) : ∀ (j m k : Nat) (acc : ByteArray), m < 10 ^ j → m ≤ 9223372036854775808 → (sg = 1 → m ≤ 9223372036854775807) → j < k → acc.size + j ≤ 1000 →
    spec_NumText_l2 u k p0 acc (sg * m) = spec_NumText_j1 u p0 (ByteArray.mk (M.dg m).toArray ++ acc) := by
  have hnil : ∀ acc : ByteArray, ByteArray.mk (M.dg 0).toArray ++ acc = acc := fun acc => ba_ext (by rw [ba_app]; rfl)
  intro j
  induction j with
  | zero =>
    intro m k acc hm _ _ hk _
    obtain rfl : m = 0 := by simpa using hm
    obtain ⟨k, rfl⟩ : ∃ k', k = k' + 1 := ⟨k - 1, by omega⟩
    unfold spec_NumText_l2
    rw [hnil]
    simp
  | succ j ih =>
    intro m k acc hm hr hr1 hk ha
    obtain ⟨k, rfl⟩ : ∃ k', k = k' + 1 := ⟨k - 1, by omega⟩
    by_cases h0 : m = 0
    · subst h0
      unfold spec_NumText_l2
      rw [hnil]
      simp
    have hd : m % 10 < 10 := Nat.mod_lt _ (by omega)
    have hq : bQuo .i64 (sg * (m : Int)) 10 = sg * ((m / 10 : Nat) : Int) := by
      have e : (sg * (m : Int)).tdiv 10 = sg * ((m / 10 : Nat) : Int) := by
        rcases hs with rfl | rfl
        · rw [Int.one_mul, Int.one_mul]; rfl
        · rw [Int.neg_mul, Int.one_mul, Int.neg_mul, Int.one_mul, Int.neg_tdiv]; rfl
      unfold bQuo
      rw [e, wrap_i64] <;> rcases hs with rfl | rfl <;> omega
    have hrm : bRem .i64 (sg * (m : Int)) 10 = sg * ((m % 10 : Nat) : Int) := by
      unfold bRem
      rcases hs with rfl | rfl
      · rw [Int.one_mul, Int.one_mul]; rfl
      · rw [Int.neg_mul, Int.one_mul, Int.neg_mul, Int.one_mul, Int.neg_tmod]; rfl
    have hj3 : spec_NumText_j3 u (fun z0 z1 z2 => spec_NumText_l2 u k z0 z1 z2) p0 acc (sg * (m : Int)) ((m % 10 : Nat) : Int) = spec_NumText_j1 u p0 (ByteArray.mk (M.dg m).toArray ++ acc) := by
      unfold spec_NumText_j3
      rw [byte_dig _ hd, hq]
      have hsz : (ByteArray.mk #[UInt8.ofNat (48 + m % 10)]).size = 1 := rfl
      have hc : decide ((ByteArray.mk #[UInt8.ofNat (48 + m % 10)]).size + acc.size ≤ 9223372036854775807) = true := by rw [hsz]; simp; omega
      rw [hc]
      simp only [chk, if_true, Option.bind_some]
      rw [ih (m / 10) k _ (by rw [Nat.pow_succ] at hm; omega) (by omega) (fun _ => by omega) (by omega) (by rw [ByteArray.size_append, hsz]; omega)]
      congr 1
      refine ba_ext ?_
      rw [ba_app, ba_app, ba_app, dg_step h0]
      simp
    unfold spec_NumText_l2
    have hne : (sg * (m : Int) != 0) = true := by rcases hs with rfl | rfl <;> simp <;> omega
    rw [hne, cond_true, hrm]
    by_cases hneg : sg * ((m % 10 : Nat) : Int) < 0
    · rw [decide_eq_true hneg, cond_true]
      have : bSub .i64 0 (sg * ((m % 10 : Nat) : Int)) = ((m % 10 : Nat) : Int) := by
        rw [bSub_i64] <;> rcases hs with rfl | rfl <;> omega
      rw [this]
      exact hj3
    · rw [decide_eq_false hneg, cond_false]
      have : sg * ((m % 10 : Nat) : Int) = ((m % 10 : Nat) : Int) := by rcases hs with rfl | rfl <;> omega
      rw [this]
      exact hj3
theorem spec_NumText_eq {u : Nat} (hu : 1099511627776 ≤ u) {n : Int} (h0 : -9223372036854775808 ≤ n) (h1 : n ≤ 9223372036854775807) : spec_NumText u n = some (M.num n) := by
  unfold spec_NumText
  by_cases hz : n = 0
  · subst hz
    have : M.num 0 = ByteArray.mk #[48] := by
      unfold M.num Lib.itoa
      rw [if_neg (by omega), show (0 : Int).toNat = 0 by rfl, Lib.decDigits_one (by omega)]
      rfl
    rw [this]; rfl
  rw [beq_eq_false_iff_ne.2 hz, cond_false]
  rcases Int.lt_or_lt_of_ne hz with hl | hl
  · obtain ⟨m, rfl⟩ : ∃ m : Nat, n = -1 * (m : Int) := ⟨n.natAbs, by omega⟩
    rw [num_l2 (-1 * (m : Int)) (-1) (.inr rfl) 19 m u _ (by omega) (by omega) (fun h => by omega) (by omega) (by show 0 + 19 ≤ 1000; omega)]
    unfold spec_NumText_j1
    rw [decide_eq_true hl, cond_true]
    have hm0 : m ≠ 0 := by omega
    have hd : M.dg m = Lib.decDigits m := by unfold M.dg; rw [if_neg hm0]
    have hsz : (ByteArray.mk (M.dg m).toArray ++ ByteArray.mk #[]).size ≤ 21 := by
      have := num_size h0 h1
      have e : M.num (-1 * (m : Int)) = ByteArray.mk (45 :: Lib.decDigits m).toArray := by
        unfold M.num; rw [show (-1 * (m : Int)) = -(m : Int) by omega, Lib.itoa_neg m (by omega)]
      rw [e] at this
      rw [hd, ByteArray.size_append]
      simp only [ByteArray.size, List.size_toArray, List.length_cons] at this ⊢
      simp; omega
    have hc : decide ((ByteArray.mk #[45]).size + (ByteArray.mk (M.dg m).toArray ++ ByteArray.mk #[]).size ≤ 9223372036854775807) = true := by
      have : (ByteArray.mk #[45]).size = 1 := rfl
      rw [this]; simp only [decide_eq_true_eq]; omega
    rw [hc]
    simp only [chk, if_true, Option.bind_some, Option.some.injEq]
    refine ba_ext ?_
    rw [ba_app, ba_app, hd]
    unfold M.num
    rw [show (-1 * (m : Int)) = -(m : Int) by omega, Lib.itoa_neg m (by omega)]
    simp
  · obtain ⟨m, rfl⟩ : ∃ m : Nat, n = 1 * (m : Int) := ⟨n.toNat, by omega⟩
    rw [num_l2 (1 * (m : Int)) 1 (.inl rfl) 19 m u _ (by omega) (by omega) (fun h => by omega) (by omega) (by show 0 + 19 ≤ 1000; omega)]
    unfold spec_NumText_j1
    rw [decide_eq_false (by omega), cond_false]
    have hm0 : m ≠ 0 := by omega
    congr 1
    refine ba_ext ?_
    rw [ba_app]
    unfold M.num M.dg
    rw [if_neg hm0, Int.one_mul, Lib.itoa_nonneg]
    simp
theorem i64_b {n : Int} (h : wInt .i64 n) : -9223372036854775808 ≤ n ∧ n ≤ 9223372036854775807 := h
theorem idx_lit {α : Type} (l : List α) (k : Nat) {v : α} (h : l[k]? = some v) : idx l (k : Int) = some v := by
  unfold idx
  simp [h]
def M.within (n a b : Int) : Bool := decide (a ≤ n) && decide (n ≤ b)
def M.sizeOk (size n : Int) : Bool := M.within size 2 6 && M.within n 0 (40 * size)
def M.blocks (size n : Int) : Int := if M.sizeOk size n then (n + size - 1) / size else 0
def M.spanOf (size n i : Int) : Int × Int := if M.within i 0 (M.blocks size n - 1) then (i * size, min size (n - i * size)) else (0, 0)
theorem within_t {n a b : Int} (h : M.within n a b = true) : a ≤ n ∧ n ≤ b := by simpa [M.within] using h
theorem within_f {n a b : Int} (h : M.within n a b = false) : n < a ∨ b < n := by
  simp [M.within] at h; omega
theorem impl_within_eq (u : Nat) (n a b : Int) : impl_within u n a b = some (M.within n a b) := by
  unfold impl_within M.within
  by_cases h : a ≤ n <;> simp [h]
theorem spec_l1In_eq (u : Nat) (n a b : Int) : spec_l1In u n a b = some (M.within n a b) := by
  unfold spec_l1In M.within
  by_cases h : a ≤ n <;> simp [h]
theorem impl_SizeOk_eq (u : Nat) (s n : Int) : impl_SizeOk u s n = some (M.sizeOk s n) := by
  unfold impl_SizeOk M.sizeOk
  simp only [impl_within_eq, Option.bind_some]
  cases h : M.within s 2 6 with
  | false => simp
  | true =>
    have := within_t h
    simp (disch := omega) only [cond_true, Bool.true_and, bMul_i64]
theorem spec_SizeOk_eq (u : Nat) (s n : Int) : spec_SizeOk u s n = some (M.sizeOk s n) := by
  unfold spec_SizeOk M.sizeOk
  simp only [spec_l1In_eq, Option.bind_some]
  cases h : M.within s 2 6 with
  | false => simp
  | true =>
    have := within_t h
    simp (disch := omega) only [cond_true, Bool.true_and, bMul_i64]
    rw [Int.mul_comm]
theorem sizeOk_t {s n : Int} (h : M.sizeOk s n = true) : 2 ≤ s ∧ s ≤ 6 ∧ 0 ≤ n ∧ n ≤ 40 * s := by
  simp [M.sizeOk, M.within] at h; omega
def M.ceilDiv (a b : Int) : Int := if M.within a 0 1000000000000 && M.within b 1 1000000000000 then (a + b - 1) / b else 0
theorem impl_CeilDiv_eq (u : Nat) (a b : Int) : impl_CeilDiv u a b = some (M.ceilDiv a b) := by
  unfold impl_CeilDiv M.ceilDiv impl_CeilDiv_j1
  simp only [impl_within_eq, Option.bind_some]
  cases h : M.within a 0 1000000000000 with
  | false => simp
  | true =>
    cases h2 : M.within b 1 1000000000000 with
    | false => simp
    | true =>
      have := within_t h
      have := within_t h2
      have hb : (b == 0) = false := by simp; omega
      simp (disch := omega) [chk, bAdd_i64, bSub_i64, bQuo_pos, hb]
theorem spec_CeilDiv_eq (u : Nat) (a b : Int) : spec_CeilDiv u a b = some (M.ceilDiv a b) := by
  unfold spec_CeilDiv M.ceilDiv spec_CeilDiv_j1
  simp only [spec_l1In_eq, Option.bind_some]
  cases h : M.within a 0 1000000000000 with
  | false => simp
  | true =>
    cases h2 : M.within b 1 1000000000000 with
    | false => simp
    | true =>
      have := within_t h
      have := within_t h2
      have hb : (b == 0) = false := by simp; omega
      simp (disch := omega) [chk, bAdd_i64, bSub_i64, bQuo_pos, hb]
theorem blocks_ceil {s n : Int} (h : M.sizeOk s n = true) : M.ceilDiv n s = (n + s - 1) / s := by
  have := sizeOk_t h
  have h1 : M.within n 0 1000000000000 = true := by simp [M.within]; omega
  have h2 : M.within s 1 1000000000000 = true := by simp [M.within]; omega
  simp [M.ceilDiv, h1, h2]
theorem impl_Blocks_eq (u : Nat) (s n : Int) : impl_Blocks u s n = some (M.blocks s n) := by
  unfold impl_Blocks M.blocks
  simp only [impl_SizeOk_eq, impl_CeilDiv_eq, Option.bind_some]
  cases h : M.sizeOk s n with
  | false => simp
  | true => simp [blocks_ceil h]
theorem spec_Blocks_eq (u : Nat) (s n : Int) : spec_Blocks u s n = some (M.blocks s n) := by
  unfold spec_Blocks M.blocks
  simp only [spec_SizeOk_eq, spec_CeilDiv_eq, Option.bind_some]
  cases h : M.sizeOk s n with
  | false => simp
  | true => simp [blocks_ceil h]
theorem blocks_range (s n : Int) : 0 ≤ M.blocks s n ∧ M.blocks s n ≤ 40 := by
  unfold M.blocks
  split
  · rename_i h
    have h := sizeOk_t h
    refine ⟨Int.ediv_nonneg (by omega) (by omega), ?_⟩
    have : (n + s - 1) / s < 41 := Int.ediv_lt_of_lt_mul (by omega) (by omega)
    omega
  · omega
theorem blocks_ok {s n i : Int} (h : M.within i 0 (M.blocks s n - 1) = true) : M.sizeOk s n = true ∧ 0 ≤ i ∧ i ≤ 39 := by
  have h1 := within_t h
  have := blocks_range s n
  refine ⟨?_, by omega, by omega⟩
  cases h2 : M.sizeOk s n with
  | true => rfl
  | false => simp [M.blocks, h2] at h1; omega
theorem mul_range {s i : Int} (h1 : 2 ≤ s) (h2 : s ≤ 6) (h3 : 0 ≤ i) (h4 : i ≤ 39) : 0 ≤ i * s ∧ i * s ≤ 234 :=
  ⟨Int.mul_nonneg h3 (by omega), Int.le_trans (Int.mul_le_mul h4 h2 (by omega) (by omega)) (by omega)⟩
theorem impl_SpanOf_eq (u : Nat) (s n i : Int) : impl_SpanOf u s n i = some (M.spanOf s n i) := by
  unfold impl_SpanOf M.spanOf
  have hb := blocks_range s n
  simp (disch := omega) only [impl_Blocks_eq, impl_within_eq, Option.bind_some, bSub_i64]
  cases h : M.within i 0 (M.blocks s n - 1) with
  | false => simp
  | true =>
    have ⟨h1, h2, h3⟩ := blocks_ok h
    have h1 := sizeOk_t h1
    have h4 := mul_range (s := s) (i := i) (by omega) (by omega) h2 h3
    simp (disch := omega) [bMul_i64, bSub_i64]
    omega
theorem spec_Least_eq (u : Nat) (a b : Int) : spec_Least u a b = some (min a b) := by
  unfold spec_Least
  by_cases h : b < a <;> simp [h] <;> omega
theorem spec_SpanOf_eq (u : Nat) (s n i : Int) : spec_SpanOf u s n i = some (M.spanOf s n i) := by
  unfold spec_SpanOf M.spanOf
  have hb := blocks_range s n
  simp (disch := omega) only [spec_Blocks_eq, spec_l1In_eq, Option.bind_some, bSub_i64]
  cases h : M.within i 0 (M.blocks s n - 1) with
  | false => simp
  | true =>
    have ⟨h1, h2, h3⟩ := blocks_ok h
    have h1 := sizeOk_t h1
    have h4 := mul_range (s := s) (i := i) (by omega) (by omega) h2 h3
    simp (disch := omega) [bMul_i64, bSub_i64, spec_Least_eq]
def M.isBytes (b : List Int) : Prop := ∀ x ∈ b, 0 ≤ x ∧ x ≤ 255
def M.weakS : List Int → Int → Int → Int × Int
  | [], x, y => (x, y)
  | c :: b, x, y => M.weakS b ((x + c) % 251) ((y + (x + c) % 251) % 251)
def M.weakOf (b : List Int) : Int := (M.weakS b 0 0).1 + 251 * (M.weakS b 0 0).2
theorem weakS_range (b : List Int) : ∀ (x y : Int), 0 ≤ x → x < 251 → 0 ≤ y → y < 251 → 0 ≤ (M.weakS b x y).1 ∧ (M.weakS b x y).1 < 251 ∧ 0 ≤ (M.weakS b x y).2 ∧ (M.weakS b x y).2 < 251 := by
  induction b with
  | nil => intro x y h1 h2 h3 h4; exact ⟨h1, h2, h3, h4⟩
  | cons c b ih =>
    intro x y h1 h2 h3 h4
    exact ih _ _ (by omega) (by omega) (by omega) (by omega)
theorem weakOf_range (b : List Int) : 0 ≤ M.weakOf b ∧ M.weakOf b ≤ 63000 := by
  have := weakS_range b 0 0 (by omega) (by omega) (by omega) (by omega)
  unfold M.weakOf; omega
theorem spec_WeakOf_w (u : Nat) : ∀ (p b : List Int) (i : Nat) (x y : Int), M.isBytes b → 0 ≤ x → x < 251 → 0 ≤ y → y < 251 →
    wlist (spec_WeakOf_l2_f u p) (spec_WeakOf_l2_b u p) b i (x, y) = spec_WeakOf_j1 u (M.weakS b x y).1 (M.weakS b x y).2 := by
  intro p b
  induction b with
  | nil => intros; rfl
  | cons c b ih =>
    intro i x y hb h1 h2 h3 h4
    have hc := hb c (by simp)
    have e1 : bRem .i64 (bAdd .i64 x (IntKind.wrap .i64 c)) 251 = (x + c) % 251 := by
      rw [wrap_i64 (by omega) (by omega), bAdd_i64 (by omega) (by omega), bRem_pos (by omega)]
    have e2 : bRem .i64 (bAdd .i64 y ((x + c) % 251)) 251 = (y + (x + c) % 251) % 251 := by
      rw [bAdd_i64 (by omega) (by omega), bRem_pos (by omega)]
    simp only [wlist, spec_WeakOf_l2_b, e1, e2]
    exact ih (i + 1) _ _ (fun z hz => hb z (by simp [hz])) (by omega) (by omega) (by omega) (by omega)
theorem impl_WeakOf_w (u : Nat) : ∀ (p b : List Int) (i : Nat) (x y : Int), M.isBytes b → 0 ≤ x → x < 251 → 0 ≤ y → y < 251 →
    wlist (impl_WeakOf_l2_f u p) (impl_WeakOf_l2_b u p) b i (x, y) = impl_WeakOf_j1 u (M.weakS b x y).1 (M.weakS b x y).2 := by
  intro p b
  induction b with
  | nil => intros; rfl
  | cons c b ih =>
    intro i x y hb h1 h2 h3 h4
    have hc := hb c (by simp)
    have e1 : bRem .i64 (bAdd .i64 x (IntKind.wrap .i64 c)) 251 = (x + c) % 251 := by
      rw [wrap_i64 (by omega) (by omega), bAdd_i64 (by omega) (by omega), bRem_pos (by omega)]
    have e2 : bRem .i64 (bAdd .i64 y ((x + c) % 251)) 251 = (y + (x + c) % 251) % 251 := by
      rw [bAdd_i64 (by omega) (by omega), bRem_pos (by omega)]
    simp only [wlist, impl_WeakOf_l2_b, e1, e2]
    exact ih (i + 1) _ _ (fun z hz => hb z (by simp [hz])) (by omega) (by omega) (by omega) (by omega)
theorem spec_WeakOf_eq {u : Nat} (hu : 1099511627776 ≤ u) {b : List Int} (hb : M.isBytes b) (hl : b.length ≤ 1073741824) : spec_WeakOf u b = some (M.weakOf b) := by
  unfold spec_WeakOf
  rw [spec_WeakOf_l2_w u b (0, 0) u (by omega) (by omega), spec_WeakOf_w u b b 0 0 0 hb (by omega) (by omega) (by omega) (by omega)]
  have := weakS_range b 0 0 (by omega) (by omega) (by omega) (by omega)
  unfold spec_WeakOf_j1 M.weakOf
  simp (disch := omega) only [bMul_i64, bAdd_i64]
theorem tmod_wrap {n m : Int} (hm : 0 < m) : (n.tmod m + m).tmod m = n % m := by
  rcases Int.le_total 0 n with h | h
  · rw [Int.tmod_eq_emod_of_nonneg h, Int.tmod_eq_emod_of_nonneg (by have := Int.emod_nonneg n (show m ≠ 0 by omega); omega)]
    simp
  · have h1 : n.tmod m = -((-n) % m) := by
      rw [show n = -(-n) by omega, Int.neg_tmod, Int.tmod_eq_emod_of_nonneg (by omega)]; simp
    have h2 := Int.emod_nonneg (-n) (show m ≠ 0 by omega)
    have h3 := Int.emod_lt_of_pos (-n) hm
    rw [h1, Int.tmod_eq_emod_of_nonneg (by omega)]
    have : (-((-n) % m) + m) % m = n % m := by
      have e : -n = m * (-n / m) + (-n) % m := (Int.mul_ediv_add_emod (-n) m).symm
      have e2 : -((-n) % m) + m = n + m * (-n / m + 1) := by
        rw [Int.mul_add]; omega
      rw [e2, Int.add_mul_emod_self_left]
    exact this
theorem tmod_range {n m : Int} (hm : 0 < m) : -m < n.tmod m ∧ n.tmod m < m := by
  rcases Int.le_total 0 n with h | h
  · rw [Int.tmod_eq_emod_of_nonneg h]
    have h2 := Int.emod_nonneg n (show m ≠ 0 by omega)
    have h3 := Int.emod_lt_of_pos n hm
    omega
  · have h1 : n.tmod m = -((-n) % m) := by
      rw [show n = -(-n) by omega, Int.neg_tmod, Int.tmod_eq_emod_of_nonneg (by omega)]; simp
    have h2 := Int.emod_nonneg (-n) (show m ≠ 0 by omega)
    have h3 := Int.emod_lt_of_pos (-n) hm
    omega
theorem impl_Wrap_eq (u : Nat) (n m : Int) : impl_Wrap u n m = some (if M.within m 1 1000000000000 then n % m else 0) := by
  unfold impl_Wrap
  simp only [impl_within_eq, Option.bind_some]
  cases h : M.within m 1 1000000000000 with
  | false => simp
  | true =>
    have h3 := within_t h
    have hb : (m == 0) = false := by simp; omega
    have h4 := tmod_range (n := n) (m := m) (by omega)
    simp only [hb, Bool.not_true, cond_false, Bool.not_false, chk_true, Option.bind_some]
    have e1 : bRem .i64 n m = n.tmod m := rfl
    rw [e1, bAdd_i64 (by omega) (by omega)]
    show some ((n.tmod m + m).tmod m) = _
    rw [tmod_wrap (by omega)]; simp
theorem impl_weak_eq (u : Nat) (x y : Int) : impl_weak u x y = some (x % 251 + 251 * (y % 251)) := by
  unfold impl_weak
  have h : M.within 251 1 1000000000000 = true := by decide
  simp only [impl_Wrap_eq, Option.bind_some, h, if_true]
  simp (disch := omega) only [bMul_i64, bAdd_i64]
theorem impl_WeakOf_eq {u : Nat} (hu : 1099511627776 ≤ u) {b : List Int} (hb : M.isBytes b) (hl : b.length ≤ 1073741824) : impl_WeakOf u b = some (M.weakOf b) := by
  unfold impl_WeakOf
  rw [impl_WeakOf_l2_w u b (0, 0) u (by omega) (by omega), impl_WeakOf_w u b b 0 0 0 hb (by omega) (by omega) (by omega) (by omega)]
  have := weakS_range b 0 0 (by omega) (by omega) (by omega) (by omega)
  unfold impl_WeakOf_j1 M.weakOf
  simp only [impl_weak_eq, Option.bind_some]
  congr 1
  omega
def M.digits : Nat → Int → List Int
  | 0, _ => []
  | n + 1, s => M.digits n (s / 256) ++ [s % 256]
def M.bytesR : Nat → Int → Option (List Int)
  | 0, s => if s = 1 then some [] else none
  | n + 1, s => if s = 1 then some [] else if s < 256 then none else (M.bytesR n (s / 256)).map (· ++ [s % 256])
def M.bytesOf (s : Int) : List Int × Bool := if s < 1 then ([], false) else match M.bytesR 6 s with | some b => (b, true) | none => ([], false)
def M.nOf : Nat → Int → Nat
  | 0, _ => 0
  | k + 1, t => if 1 < t then M.nOf k (t / 256) + 1 else 0
def M.endOf : Nat → Int → Int
  | 0, t => t
  | k + 1, t => if 1 < t then M.endOf k (t / 256) else t
theorem nOf_le : ∀ (k : Nat) (t : Int), M.nOf k t ≤ k := by
  intro k
  induction k with
  | zero => intro t; simp [M.nOf]
  | succ k ih => intro t; unfold M.nOf; have := ih (t / 256); split <;> omega
theorem endOf_eq : ∀ (k : Nat) (t : Int), M.endOf k t = t / 256 ^ M.nOf k t := by
  intro k
  induction k with
  | zero => intro t; simp [M.endOf, M.nOf]
  | succ k ih =>
    intro t
    unfold M.endOf M.nOf
    split
    · rw [ih, Int.ediv_ediv_of_nonneg (by omega), Int.pow_succ, Int.mul_comm]
    · simp
theorem bytesR_eq : ∀ (k : Nat) (t : Int), 0 ≤ t → M.bytesR k t = if M.endOf k t = 1 then some (M.digits (M.nOf k t) t) else none := by
  intro k
  induction k with
  | zero => intro t h; simp [M.bytesR, M.endOf, M.nOf, M.digits]
  | succ k ih =>
    intro t h
    unfold M.bytesR M.endOf M.nOf
    by_cases h1 : t = 1
    · subst h1; simp [M.digits]
    · rw [if_neg h1]
      by_cases h2 : 1 < t
      · simp only [if_pos h2]
        by_cases h3 : t < 256
        · have : t / 256 = 0 := Int.ediv_eq_zero_of_lt h h3
          rw [if_pos h3, this]
          have : M.endOf k 0 = 0 := by rw [endOf_eq]; simp
          rw [this]; simp
        · rw [if_neg h3, ih _ (by omega)]
          split <;> simp [M.digits]
      · have : t = 0 := by omega
        subst this; simp
theorem endOf_ge : ∀ (k : Nat) (t : Int), 0 ≤ t → t / 256 ^ k ≤ M.endOf k t := by
  intro k
  induction k with
  | zero => intro t h; simp [M.endOf]
  | succ k ih =>
    intro t h
    unfold M.endOf
    split
    · have := ih (t / 256) (by omega)
      rwa [Int.ediv_ediv_of_nonneg (by omega), Int.mul_comm, ← Int.pow_succ] at this
    · exact Int.ediv_le_self _ h
theorem digits_bytes : ∀ (n : Nat) (s : Int), M.isBytes (M.digits n s) := by
  intro n
  induction n with
  | zero => intro s x hx; simp [M.digits] at hx
  | succ n ih =>
    intro s x hx
    simp only [M.digits, List.mem_append, List.mem_singleton] at hx
    rcases hx with h | h
    · exact ih _ x h
    · omega
theorem digits_length : ∀ (n : Nat) (s : Int), (M.digits n s).length = n := by
  intro n
  induction n with
  | zero => intro s; rfl
  | succ n ih => intro s; simp [M.digits, ih]
theorem bytesOf_some {s : Int} {b : List Int} (h : M.bytesOf s = (b, true)) : 1 ≤ s ∧ s / 256 ^ b.length = 1 ∧ b = M.digits b.length s ∧ b.length ≤ 6 := by
  unfold M.bytesOf at h
  split at h
  · cases h
  · rename_i h1
    rw [bytesR_eq 6 s (by omega)] at h
    have he := endOf_eq 6 s
    have hn := nOf_le 6 s
    by_cases h2 : M.endOf 6 s = 1
    · simp only [h2, if_true, Prod.mk.injEq, and_true] at h
      subst h
      rw [digits_length]
      exact ⟨by omega, by rw [← he]; exact h2, rfl, hn⟩
    · simp [h2] at h
theorem bytesOf_bytes (s : Int) : M.isBytes (M.bytesOf s).1 ∧ (M.bytesOf s).1.length ≤ 6 := by
  match h : M.bytesOf s with
  | (b, true) =>
    have h := bytesOf_some h
    exact ⟨by rw [h.2.2.1]; exact digits_bytes _ _, h.2.2.2⟩
  | (b, false) =>
    have : b = [] := by
      unfold M.bytesOf at h
      split at h
      · simp at h; exact h.symm ▸ rfl
      · split at h <;> simp at h; exact h.symm ▸ rfl
    subst this
    exact ⟨by simp [M.isBytes], by simp⟩
theorem bAnd255 (a : Int) (h : 0 ≤ a) : IntKind.wrap .u8 (bAnd .i64 a 255) = a % 256 := by
  have : bAnd .i64 a 255 = a % 256 := by
    unfold bAnd
    have e : (BitVec.ofInt (IntKind.bits .i64) a &&& BitVec.ofInt (IntKind.bits .i64) 255).toNat = (a % 256).toNat := by
      change (BitVec.ofInt 64 a &&& BitVec.ofInt 64 255).toNat = (a % 256).toNat
      rw [BitVec.toNat_and, BitVec.toNat_ofInt, BitVec.toNat_ofInt, show ((255 : Int) % ((2 ^ 64 : Nat) : Int)).toNat = 2 ^ 8 - 1 by decide, Nat.and_two_pow_sub_one_eq_mod]
      omega
    rw [e]
    exact (wrap_i64 (by omega) (by omega)).trans (by omega)
  rw [this, wrap_u8]; omega
theorem spec_BytesOf_l2_eq (u : Nat) : ∀ (k n : Nat) (s : Int) (acc : List Int), n < k → 1 ≤ s → s < 256 ^ n * 2 → acc.length + n ≤ 1000 →
    spec_BytesOf_l2 u k s acc = some (match M.bytesR n s with | some b => (b ++ acc, true) | none => ([], false)) := by
  intro k
  induction k with
  | zero => intro n s acc h; omega
  | succ k ih =>
    intro n s acc hk h1 h2 h3
    unfold spec_BytesOf_l2
    by_cases h4 : s = 1
    · subst h4
      cases n <;> simp [M.bytesR, spec_BytesOf_j1]
    · have h5 : s > 1 := by omega
      cases n with
      | zero => simp at h2; omega
      | succ n =>
        simp only [h5, decide_true, cond_true, M.bytesR, if_neg h4]
        by_cases h6 : s < 256
        · simp [h6]
        · have hw : ([IntKind.wrap .u8 (bAnd .i64 s 255)]) = [s % 256] := by rw [bAnd255 _ (by omega)]
          simp only [h6, decide_false, cond_false, if_false, bShr8, hw]
          rw [chk_dec (by simp; omega)]
          simp only [Option.bind_some]
          rw [ih n (s / 256) _ (by omega) (by omega) (by rw [Int.pow_succ] at h2; omega) (by simp; omega)]
          cases M.bytesR n (s / 256) <;> simp
theorem bytesOf_big {s : Int} (h : 562949953421311 < s) : M.bytesOf s = ([], false) := by
  unfold M.bytesOf
  rw [if_neg (by omega), bytesR_eq 6 s (by omega)]
  have := endOf_ge 6 s (by omega)
  have e : (256 : Int) ^ 6 = 281474976710656 := by decide
  rw [e] at this
  rw [if_neg (by omega)]
theorem spec_BytesOf_eq {u : Nat} (hu : 1099511627776 ≤ u) (s : Int) : spec_BytesOf u s = some (M.bytesOf s) := by
  unfold spec_BytesOf
  simp only [spec_l1In_eq, Option.bind_some]
  cases h : M.within s 1 562949953421311 with
  | false =>
    rcases within_f h with h | h
    · simp [M.bytesOf, h]
    · rw [bytesOf_big h]; simp
  | true =>
    have h := within_t h
    have e : (256 : Int) ^ 6 = 281474976710656 := by decide
    simp only [Bool.not_true, cond_false]
    rw [spec_BytesOf_l2_eq u u 6 s [] (by omega) (by omega) (by rw [e]; omega) (by simp)]
    unfold M.bytesOf
    rw [if_neg (by omega)]
    cases M.bytesR 6 s <;> simp
theorem bShr8j (s : Int) (j : Nat) (h : j ≤ 8) : bShr .i64 s (8 * (j : Int)) = s / 256 ^ j := by
  have := bShr_k .i64 s (8 * j) (by simp [IntKind.bits]; omega)
  rw [show ((8 * j : Nat) : Int) = 8 * (j : Int) by simp] at this
  rw [this, show (256 : Int) = 2 ^ 8 by decide, ← Int.pow_mul]
theorem walk_fill {α ρ : Type} {fin : List α → Option ρ} {body : Nat → List α → (List α → Option ρ) → Option ρ} (f : Nat → α) (n : Nat) (hb : ∀ i s k, i < n → s.length = n → body i s k = k (s.set i (f i))) :
    ∀ (m i : Nat) (s : List α), i + m = n → s.length = n → s.take i = (List.range i).map f → walk fin body m i s = fin ((List.range n).map f) := by
  intro m
  induction m with
  | zero =>
    intro i s h1 h2 h3
    simp only [walk]
    congr 1
    rw [List.take_of_length_le (by omega)] at h3
    rw [h3, show i = n by omega]
  | succ m ih =>
    intro i s h1 h2 h3
    simp only [walk]
    rw [hb i s _ (by omega) h2]
    refine ih (i + 1) _ (by omega) (by simp [h2]) ?_
    rw [List.take_add_one, List.take_set_of_le (Nat.le_refl i), h3, List.getElem?_set_self (by omega), List.range_succ, List.map_append]
    rfl
theorem digits_range : ∀ (n : Nat) (s : Int), M.digits n s = (List.range n).map fun i => s / 256 ^ (n - 1 - i) % 256 := by
  intro n
  induction n with
  | zero => intro s; rfl
  | succ n ih =>
    intro s
    rw [M.digits, ih, List.range_succ, List.map_append]
    congr 1
    · apply List.map_congr_left
      intro i hi
      have hi : i < n := by simpa using hi
      rw [Int.ediv_ediv_of_nonneg (by omega), Int.mul_comm, ← Int.pow_succ, show (n - 1 - i).succ = n + 1 - 1 - i by omega]
    · simp
theorem impl_BytesOf_j1_eq {u : Nat} (hu : 1099511627776 ≤ u) (s : Int) (n : Nat) (hn : n ≤ 6) : impl_BytesOf_j1 u s (n : Int) = some (if 1 ≤ s ∧ s / 256 ^ n = 1 then (M.digits n s, true) else ([], false)) := by
  unfold impl_BytesOf_j1
  by_cases h1 : s < 1
  · have : ¬ (1 ≤ s) := by omega
    simp [h1, this, impl_BytesOf_j2]
  · rw [bMul_i64 (by omega) (by omega), bShr8j _ _ (by omega), chk_dec (by omega)]
    by_cases h2 : s / 256 ^ n = 1
    · have h3 : (1 : Int) ≤ s := by omega
      simp only [h1, decide_false, cond_false, Option.bind_some, h2, h3, true_and, if_true]
      unfold impl_BytesOf_j2
      rw [show ((1 : Int) != 1) = false by decide]
      simp only [cond_false, beq_self_eq_true, Bool.or_true, Bool.and_true, Int.toNat_natCast]
      rw [chk_dec (by omega), chk_dec (by omega)]
      simp only [Option.bind_some]
      rw [impl_BytesOf_l4_w u s n _ u (by simp; omega) (by simp; omega)]
      simp only [List.length_replicate, Int.toNat_natCast]
      rw [walk_fill (fun i => s / 256 ^ (n - 1 - i) % 256) n _ n 0 _ (by omega) (by simp) (by simp), ← digits_range]
      · rfl
      · intro i t k hi ht
        unfold impl_BytesOf_l4_b
        have e : bSub .i64 (bSub .i64 (n : Int) 1) (i : Int) = ((n - 1 - i : Nat) : Int) := by
          rw [bSub_i64 (a := (n : Int)) (by omega) (by omega), bSub_i64 (by omega) (by omega)]; omega
        rw [e, bMul_i64 (by omega) (by omega), bShr8j _ _ (by omega), chk_dec (by omega), wrap_u8, idx_nat, List.getElem?_eq_getElem (by omega)]
        simp
    · have : (s / 256 ^ n != 1) = true := by simpa using h2
      simp only [h1, decide_false, cond_false, Option.bind_some, this]
      simp [impl_BytesOf_j2, h2]
theorem impl_BytesOf_l5_eq {u : Nat} (hu : 1099511627776 ≤ u) (s : Int) : ∀ (m n k : Nat), n + m = 6 → m < k → impl_BytesOf_l5 u k s (n : Int) = impl_BytesOf_j1 u s ((n + M.nOf m (s / 256 ^ n) : Nat) : Int) := by
  intro m
  induction m with
  | zero =>
    intro n k h1 h2
    obtain ⟨k, rfl⟩ : ∃ j, k = j + 1 := ⟨k - 1, by omega⟩
    unfold impl_BytesOf_l5
    have : ¬ ((n : Int) < 6) := by omega
    simp [this, impl_BytesOf_j6, M.nOf]
  | succ m ih =>
    intro n k h1 h2
    obtain ⟨k, rfl⟩ : ∃ j, k = j + 1 := ⟨k - 1, by omega⟩
    unfold impl_BytesOf_l5
    have h3 : (n : Int) < 6 := by omega
    rw [bMul_i64 (by omega) (by omega), bShr8j _ _ (by omega), chk_dec (by omega)]
    simp only [h3, decide_true, cond_true, Option.bind_some, impl_BytesOf_j6, M.nOf]
    by_cases h4 : s / 256 ^ n > 1
    · have h4' : 1 < s / 256 ^ n := h4
      simp only [h4, decide_true, cond_true, h4', if_true]
      rw [bAdd_succ (by omega), ih (n + 1) k (by omega) (by omega), Int.pow_succ, ← Int.ediv_ediv_of_nonneg (Int.le_of_lt (Int.pow_pos (by omega)))]
      congr 1
      omega
    · have h4' : ¬ 1 < s / 256 ^ n := h4
      simp only [h4, decide_false, cond_false, h4', if_false]
      simp
theorem impl_BytesOf_eq {u : Nat} (hu : 1099511627776 ≤ u) (s : Int) : impl_BytesOf u s = some (M.bytesOf s) := by
  unfold impl_BytesOf
  have := impl_BytesOf_l5_eq hu s 6 0 u (by omega) (by omega)
  simp only [Int.natCast_zero, Int.pow_zero, Int.ediv_one, Nat.zero_add] at this
  rw [this, impl_BytesOf_j1_eq hu s _ (nOf_le 6 s)]
  unfold M.bytesOf
  by_cases h : s < 1
  · have : ¬ (1 ≤ s) := by omega
    simp [h, this]
  · rw [if_neg h, bytesR_eq 6 s (by omega), endOf_eq]
    have : 1 ≤ s := by omega
    by_cases h2 : s / 256 ^ M.nOf 6 s = 1 <;> simp [h2, this]
def M.valS : List Int → Int → Int
  | [], s => s
  | c :: b, s => M.valS b (256 * s + c)
def M.sumOf (b : List Int) : Sum := if 6 < b.length then ⟨0, 0⟩ else ⟨M.weakOf b, M.valS b 1⟩
theorem valS_app (a b : List Int) : ∀ s, M.valS (a ++ b) s = M.valS b (M.valS a s) := by
  induction a with
  | nil => intro s; rfl
  | cons c a ih => intro s; exact ih _
theorem valS_digits : ∀ (n : Nat) (s : Int), s / 256 ^ n = 1 → M.valS (M.digits n s) 1 = s := by
  intro n
  induction n with
  | zero => intro s h; simpa [M.digits, M.valS] using h.symm
  | succ n ih =>
    intro s h
    rw [M.digits, valS_app, ih]
    · simp only [M.valS]; omega
    · rw [Int.ediv_ediv_of_nonneg (by omega), Int.mul_comm, ← Int.pow_succ]; exact h
theorem sumOf_bytesOf {s : Int} {b : List Int} (h : M.bytesOf s = (b, true)) : M.sumOf b = ⟨M.weakOf b, s⟩ := by
  have ⟨h1, h2, h3, h4⟩ := bytesOf_some h
  unfold M.sumOf
  have := valS_digits b.length s h2
  rw [← h3] at this
  rw [if_neg (by omega), this]
theorem spec_SumOf_w (u : Nat) : ∀ (p b : List Int) (i : Nat) (s : Int) (n : Nat), M.isBytes b → 0 ≤ s → s < 256 ^ n * 2 → n + b.length ≤ 6 →
    wlist (spec_SumOf_l2_f u p) (spec_SumOf_l2_b u p) b i s = spec_SumOf_j1 u p (M.valS b s) := by
  intro p b
  induction b with
  | nil => intros; rfl
  | cons c b ih =>
    intro i s n hb h1 h2 h3
    have hc := hb c (by simp)
    simp only [List.length_cons] at h3
    have hp : (256 : Int) ^ n ≤ 1099511627776 := by
      rcases (show n = 0 ∨ n = 1 ∨ n = 2 ∨ n = 3 ∨ n = 4 ∨ n = 5 by omega) with rfl | rfl | rfl | rfl | rfl | rfl <;> decide
    simp only [wlist, spec_SumOf_l2_b]
    rw [wrap_i64 (by omega) (by omega), bMul_i64 (by omega) (by omega), bAdd_i64 (by omega) (by omega)]
    exact ih (i + 1) _ (n + 1) (fun z hz => hb z (by simp [hz])) (by omega) (by rw [Int.pow_succ]; omega) (by omega)
theorem spec_SumOf_eq {u : Nat} (hu : 1099511627776 ≤ u) {b : List Int} (hb : M.isBytes b) (hl : b.length ≤ 1073741824) : spec_SumOf u b = some (M.sumOf b) := by
  unfold spec_SumOf M.sumOf
  by_cases h : 6 < b.length
  · have : (b.length : Int) > 6 := by omega
    simp [h, this]
  · have : ¬ ((b.length : Int) > 6) := by omega
    simp only [this, decide_false, cond_false, h, if_false]
    rw [spec_SumOf_l2_w u b 1 u (by omega) (by omega), spec_SumOf_w u b b 0 1 0 hb (by omega) (by decide) (by omega)]
    unfold spec_SumOf_j1
    rw [spec_WeakOf_eq hu hb hl]
    rfl
def M.sumFit (size len : Int) (i : Nat) (s : Sum) : Bool := (M.bytesOf s.fS).2 && ((M.bytesOf s.fS).1.length == (M.spanOf size len i).2) && (M.weakOf (M.bytesOf s.fS).1 == s.fW)
def M.sumsFit (size len : Int) : List Sum → Nat → Bool
  | [], _ => true
  | s :: l, i => M.sumFit size len i s && M.sumsFit size len l (i + 1)
def M.manOk (m : Manifest) : Bool :=
  if m.fGen = 0 then m.fSize == 0 && m.fLen == 0 && m.fSums.length == 0
  else M.within m.fGen 1 1000000 && M.sizeOk m.fSize m.fLen && ((m.fSums.length : Int) == M.blocks m.fSize m.fLen) && M.sumsFit m.fSize m.fLen m.fSums 0
theorem ne_beq (a b : Int) : (a != b) = !(a == b) := rfl
theorem impl_ManOk_w {u : Nat} (hu : 1099511627776 ≤ u) (m : Manifest) : ∀ (l : List Sum) (i : Nat), wlist (impl_ManOk_l3_f u m) (impl_ManOk_l3_b u m) l i () = some (M.sumsFit m.fSize m.fLen l i) := by
  intro l
  induction l with
  | nil => intro i; rfl
  | cons s l ih =>
    intro i
    have hb := bytesOf_bytes s.fS
    simp only [wlist, impl_ManOk_l3_b, impl_BytesOf_eq hu, impl_SpanOf_eq, Option.bind_some, M.sumsFit, M.sumFit, impl_ManOk_j4, ih, impl_WeakOf_eq hu hb.1 (show _ ≤ _ by omega), ne_beq]
    cases (M.bytesOf s.fS).2 <;> cases (((M.bytesOf s.fS).1.length : Int) == (M.spanOf m.fSize m.fLen ↑i).2) <;> cases (M.weakOf (M.bytesOf s.fS).1 == s.fW) <;> simp
theorem spec_ManOk_w {u : Nat} (hu : 1099511627776 ≤ u) (m : Manifest) : ∀ (l : List Sum) (i : Nat), l = m.fSums.drop i → wlist (spec_ManOk_l3_f u m) (spec_ManOk_l3_b u m) l i () = some (M.sumsFit m.fSize m.fLen l i) := by
  intro l
  induction l with
  | nil => intro i _; rfl
  | cons s l ih =>
    intro i hd
    have hb := bytesOf_bytes s.fS
    have hx : m.fSums[i]? = some s := by
      have := congrArg List.head? hd
      simpa [List.head?_drop] using this.symm
    have hl : l = m.fSums.drop (i + 1) := by
      have := congrArg List.tail hd
      simpa [List.tail_drop] using this
    simp only [wlist, spec_ManOk_l3_b, spec_BytesOf_eq hu, spec_SpanOf_eq, Option.bind_some, M.sumsFit, M.sumFit, spec_ManOk_j4, ih (i + 1) hl, spec_SumOf_eq hu hb.1 (show _ ≤ _ by omega), ne_beq, idx_nat, hx]
    cases h : (M.bytesOf s.fS).2 with
    | false => simp
    | true =>
      have h2 := sumOf_bytesOf (s := s.fS) (b := (M.bytesOf s.fS).1) (by rw [← h])
      rw [h2]
      have h3 : (([M.weakOf (M.bytesOf s.fS).1, s.fS] : List Int) == [s.fW, s.fS]) = (M.weakOf (M.bytesOf s.fS).1 == s.fW) := by simp
      simp only [h3]
      cases (((M.bytesOf s.fS).1.length : Int) == (M.spanOf m.fSize m.fLen ↑i).2) <;> cases (M.weakOf (M.bytesOf s.fS).1 == s.fW) <;> simp
theorem impl_ManOk_eq {u : Nat} (hu : 1099511627776 ≤ u) (m : Manifest) (hl : m.fSums.length ≤ 1073741824) : impl_ManOk u m = some (M.manOk m) := by
  unfold impl_ManOk M.manOk impl_isZeroMan impl_ManOk_j1
  simp only [impl_within_eq, impl_SizeOk_eq, impl_Blocks_eq, Option.bind_some, ne_beq, impl_ManOk_l3_w u m () u (by omega) (by omega), impl_ManOk_w hu]
  have e0 : (((m.fSums.length : Int)) == 0) = (m.fSums.length == 0) := by rw [Bool.eq_iff_iff]; simp
  by_cases h : m.fGen = 0
  · have : M.within m.fGen 1 1000000 = false := by rw [h]; rfl
    simp only [h, if_true, beq_self_eq_true, cond_true, e0] at this ⊢
    cases (m.fSize == 0) <;> cases (m.fLen == 0) <;> cases (m.fSums.length == 0) <;> simp [this]
  · have : (m.fGen == 0) = false := by simpa using h
    simp only [h, if_false, this, cond_false, Option.bind_some]
    cases M.within m.fGen 1 1000000 <;> cases M.sizeOk m.fSize m.fLen <;> cases ((m.fSums.length : Int) == M.blocks m.fSize m.fLen) <;> simp
theorem spec_ManOk_eq {u : Nat} (hu : 1099511627776 ≤ u) (m : Manifest) (hl : m.fSums.length ≤ 1073741824) : spec_ManOk u m = some (M.manOk m) := by
  unfold spec_ManOk M.manOk spec_ManOk_j1
  simp only [spec_l1In_eq, spec_SizeOk_eq, spec_Blocks_eq, Option.bind_some, ne_beq, spec_ManOk_l3_w u m () u (by omega) (by omega), spec_ManOk_w hu m m.fSums 0 (by simp)]
  have e0 : (((m.fSums.length : Int)) == 0) = (m.fSums.length == 0) := by rw [Bool.eq_iff_iff]; simp
  by_cases h : m.fGen = 0
  · simp only [h, if_true, beq_self_eq_true, cond_true, e0]
    cases (m.fSize == 0) <;> cases (m.fLen == 0) <;> cases (m.fSums.length == 0) <;> simp
  · have : (m.fGen == 0) = false := by simpa using h
    simp only [h, if_false, this, cond_false, Option.bind_some]
    cases M.within m.fGen 1 1000000 <;> cases M.sizeOk m.fSize m.fLen <;> cases ((m.fSums.length : Int) == M.blocks m.fSize m.fLen) <;> simp
def M.var : Nat → Int → List Int
  | 0, n => [n % 256]
  | k + 1, n => if n ≤ 127 then [n % 256] else (n % 128 + 128) :: M.var k (n / 128)
def M.putVar (b : List Int) (n : Int) : List Int := if M.within n 0 1000000000000 then b ++ M.var 9 n else b
theorem or128 : ∀ a : Nat, a < 256 → (a ||| 128) = a % 128 + 128 := by decide +kernel
theorem bOr_u8 (a : Int) (h1 : 0 ≤ a) (h2 : a < 256) : bOr .u8 a 128 = a % 128 + 128 := by
  unfold bOr
  have e : (BitVec.ofInt (IntKind.bits .u8) a ||| BitVec.ofInt (IntKind.bits .u8) 128).toNat = (a % 128 + 128).toNat := by
    change (BitVec.ofInt 8 a ||| BitVec.ofInt 8 128).toNat = _
    rw [BitVec.toNat_or, BitVec.toNat_ofInt, BitVec.toNat_ofInt, show ((128 : Int) % ((2 ^ 8 : Nat) : Int)).toNat = 128 by decide, or128 _ (by omega)]
    omega
  rw [e, wrap_u8]; omega
theorem bAnd127 (a : Int) : bAnd .i64 a 127 = a % 128 := by
  unfold bAnd
  have e : (BitVec.ofInt (IntKind.bits .i64) a &&& BitVec.ofInt (IntKind.bits .i64) 127).toNat = (a % 128).toNat := by
    change (BitVec.ofInt 64 a &&& BitVec.ofInt 64 127).toNat = (a % 128).toNat
    rw [BitVec.toNat_and, BitVec.toNat_ofInt, BitVec.toNat_ofInt, show ((127 : Int) % ((2 ^ 64 : Nat) : Int)).toNat = 2 ^ 7 - 1 by decide, Nat.and_two_pow_sub_one_eq_mod]
    omega
  rw [e]
  exact (wrap_i64 (by omega) (by omega)).trans (by omega)
theorem var_length : ∀ (k : Nat) (n : Int), (M.var k n).length ≤ k + 1 := by
  intro k
  induction k with
  | zero => intro n; simp [M.var]
  | succ k ih =>
    intro n
    unfold M.var
    have := ih (n / 128)
    split <;> simp <;> omega
theorem var_bytes : ∀ (k : Nat) (n : Int), M.isBytes (M.var k n) := by
  intro k
  induction k with
  | zero => intro n x hx; simp [M.var] at hx; omega
  | succ k ih =>
    intro n x hx
    unfold M.var at hx
    split at hx
    · simp at hx; omega
    · rcases List.mem_cons.1 hx with h | h
      · omega
      · exact ih _ x h
theorem isBytes_app {a b : List Int} (h : M.isBytes a) (k : M.isBytes b) : M.isBytes (a ++ b) := by
  intro x hx
  rcases List.mem_append.1 hx with g | g
  · exact h x g
  · exact k x g
theorem impl_appendVar_l2_eq (u : Nat) : ∀ (j k : Nat) (n : Int) (b : List Int), n < 128 ^ (j + 1) → j < k → b.length + j ≤ 1099511627776 → impl_appendVar_l2 u k b n = some (b ++ M.var j n) := by
  intro j
  induction j with
  | zero =>
    intro k n b h1 h2 h3
    obtain ⟨k, rfl⟩ : ∃ i, k = i + 1 := ⟨k - 1, by omega⟩
    unfold impl_appendVar_l2
    have : ¬ (n ≥ 128) := by simp at h1; omega
    simp only [this, decide_false, cond_false, impl_appendVar_j1, M.var, wrap_u8]
    rw [chk_dec (by simp; omega)]; rfl
  | succ j ih =>
    intro k n b h1 h2 h3
    obtain ⟨k, rfl⟩ : ∃ i, k = i + 1 := ⟨k - 1, by omega⟩
    unfold impl_appendVar_l2
    by_cases h : n ≥ 128
    · have h' : ¬ n ≤ 127 := by omega
      simp only [h, decide_true, cond_true, M.var, h', if_false, wrap_u8, bShr7]
      rw [chk_dec (by simp; omega), bOr_u8 _ (by omega) (by omega)]
      simp only [Option.bind_some]
      rw [ih k (n / 128) _ (by rw [Int.pow_succ] at h1; omega) (by omega) (by simp; omega), show n % 256 % 128 = n % 128 by omega]
      simp
    · have h' : n ≤ 127 := by omega
      simp only [h, decide_false, cond_false, M.var, h', if_true, impl_appendVar_j1, wrap_u8]
      rw [chk_dec (by simp; omega)]; rfl
theorem p128 : (128 : Int) ^ (9 + 1) = 1180591620717411303424 := by decide
theorem impl_appendVar_eq {u : Nat} (hu : 1099511627776 ≤ u) {b : List Int} {n : Int} (hl : b.length ≤ 1073741824) (hn : n ≤ 9223372036854775807) : impl_appendVar u b n = some (b ++ M.var 9 n) :=
  impl_appendVar_l2_eq u 9 u n b (by rw [p128]; omega) (by omega) (by omega)
theorem impl_cloned_eq (u : Nat) {b : List Int} (hl : b.length ≤ 1073741824) : impl_cloned u b = some b := by
  unfold impl_cloned
  rw [chk_dec (by simp; omega), chk_dec (by simp; omega)]
  simp [chk]
theorem impl_PutVar_eq {u : Nat} (hu : 1099511627776 ≤ u) {b : List Int} {n : Int} (hl : b.length ≤ 1073741824) : impl_PutVar u b n = some (M.putVar b n) := by
  unfold impl_PutVar M.putVar
  simp only [impl_cloned_eq u hl, impl_within_eq, Option.bind_some]
  cases h : M.within n 0 1000000000000 with
  | false => simp
  | true => have := within_t h; simp [impl_appendVar_eq hu hl (show n ≤ 9223372036854775807 by omega)]
theorem putVar_length (b : List Int) (n : Int) : (M.putVar b n).length ≤ b.length + 10 := by
  unfold M.putVar
  have := var_length 9 n
  split <;> simp <;> omega
def M.putSums (b : List Int) : List Sum → List Int
  | [] => b
  | s :: l => M.putSums (b ++ M.var 9 s.fS) l
def M.putMan (b : List Int) (m : Manifest) : List Int := if M.manOk m then M.putSums (M.putVar (M.putVar (M.putVar b m.fGen) m.fSize) m.fLen) m.fSums else b
def M.manWf (m : Manifest) : Prop := ∀ s ∈ m.fSums, s.fS ≤ 9223372036854775807
theorem manOk_len {m : Manifest} (h : M.manOk m = true) : m.fSums.length ≤ 40 := by
  unfold M.manOk at h
  split at h
  · simp only [Bool.and_eq_true, beq_iff_eq] at h
    have := h.2
    omega
  · have := blocks_range m.fSize m.fLen
    simp only [Bool.and_eq_true, beq_iff_eq] at h
    omega
theorem impl_PutMan_w {u : Nat} (hu : 1099511627776 ≤ u) (m : Manifest) : ∀ (l : List Sum) (i : Nat) (b : List Int), (∀ s ∈ l, s.fS ≤ 9223372036854775807) → b.length + 10 * l.length ≤ 1073741824 →
    wlist (impl_PutMan_l2_f u m) (impl_PutMan_l2_b u m) l i b = some (M.putSums b l) := by
  intro l
  induction l with
  | nil => intros; rfl
  | cons s l ih =>
    intro i b h1 h2
    simp only [List.length_cons] at h2
    have h3 := var_length 9 s.fS
    simp only [wlist, impl_PutMan_l2_b, impl_appendVar_eq hu (show b.length ≤ 1073741824 by omega) (h1 s (by simp)), Option.bind_some, M.putSums]
    exact ih (i + 1) _ (fun z hz => h1 z (by simp [hz])) (by simp; omega)
theorem impl_PutMan_eq {u : Nat} (hu : 1099511627776 ≤ u) {b : List Int} {m : Manifest} (hl : b.length ≤ 536870912) (hm : m.fSums.length ≤ 1073741824) (hw : M.manWf m) : impl_PutMan u b m = some (M.putMan b m) := by
  unfold impl_PutMan M.putMan
  have h1 := putVar_length b m.fGen
  have h2 := putVar_length (M.putVar b m.fGen) m.fSize
  have h3 := putVar_length (M.putVar (M.putVar b m.fGen) m.fSize) m.fLen
  rw [impl_ManOk_eq hu m hm]
  cases h : M.manOk m with
  | false => simp [impl_cloned_eq u (show b.length ≤ 1073741824 by omega)]
  | true =>
    have h4 := manOk_len h
    simp only [Option.bind_some, Bool.not_true, cond_false, if_true]
    rw [impl_PutVar_eq hu (by omega)]; simp only [Option.bind_some]
    rw [impl_PutVar_eq hu (by omega)]; simp only [Option.bind_some]
    rw [impl_PutVar_eq hu (by omega)]; simp only [Option.bind_some]
    rw [impl_PutMan_l2_w u m _ u (by omega) (by omega), impl_PutMan_w hu m _ _ _ hw (by omega)]
theorem toNat_ofInt64 {a : Int} (h1 : 0 ≤ a) (h2 : a < 18446744073709551616) : (BitVec.ofInt 64 a).toNat = a.toNat := by
  rw [BitVec.toNat_ofInt]; omega
theorem bOr_nat {a b : Nat} (h1 : a < 9223372036854775808) (h2 : b < 9223372036854775808) : bOr .i64 (a : Int) (b : Int) = ((a ||| b : Nat) : Int) := by
  unfold bOr
  have e : (BitVec.ofInt (IntKind.bits .i64) (a : Int) ||| BitVec.ofInt (IntKind.bits .i64) (b : Int)).toNat = a ||| b := by
    change (BitVec.ofInt 64 (a : Int) ||| BitVec.ofInt 64 (b : Int)).toNat = _
    rw [BitVec.toNat_or, toNat_ofInt64 (by omega) (by omega), toNat_ofInt64 (by omega) (by omega)]; rfl
  rw [e]
  have : a ||| b < 2 ^ 63 := Nat.or_lt_two_pow (by omega) (by omega)
  exact wrap_i64 (by omega) (by omega)
theorem bAnd_nat {a b : Nat} (h1 : a < 9223372036854775808) (h2 : b < 9223372036854775808) : bAnd .i64 (a : Int) (b : Int) = ((a &&& b : Nat) : Int) := by
  unfold bAnd
  have e : (BitVec.ofInt (IntKind.bits .i64) (a : Int) &&& BitVec.ofInt (IntKind.bits .i64) (b : Int)).toNat = a &&& b := by
    change (BitVec.ofInt 64 (a : Int) &&& BitVec.ofInt 64 (b : Int)).toNat = _
    rw [BitVec.toNat_and, toNat_ofInt64 (by omega) (by omega), toNat_ofInt64 (by omega) (by omega)]; rfl
  rw [e]
  have : a &&& b ≤ a := Nat.and_le_left
  exact wrap_i64 (by omega) (by omega)
theorem bShr_nat {a i : Nat} (h : i ≤ 64) : bShr .i64 (a : Int) (i : Int) = ((a / 2 ^ i : Nat) : Int) := by
  rw [bShr_k .i64 _ i h]; simp
def M.setOk (s : Int) : Bool := M.within s 0 1099511627775
def M.isPlace (i : Int) : Bool := M.within i 0 39
def M.inSet (s i : Int) : Bool := M.setOk s && M.isPlace i && s.toNat.testBit i.toNat
theorem impl_SetOk_eq (u : Nat) (s : Int) : impl_SetOk u s = some (M.setOk s) := by simp [impl_SetOk, impl_within_eq, M.setOk]
theorem spec_SetOk_eq (u : Nat) (s : Int) : spec_SetOk u s = some (M.setOk s) := by simp [spec_SetOk, spec_l1In_eq, M.setOk]
theorem bit_eq {s i : Int} (hs : M.setOk s = true) (hi : M.isPlace i = true) : (bAnd .i64 (bShr .i64 s i) 1 == 1) = s.toNat.testBit i.toNat := by
  have h1 := within_t hs
  have h2 := within_t hi
  obtain ⟨a, rfl⟩ := Int.eq_ofNat_of_zero_le h1.1
  obtain ⟨n, rfl⟩ := Int.eq_ofNat_of_zero_le h2.1
  rw [bShr_nat (by omega)]
  have h3 : a / 2 ^ n ≤ a := Nat.div_le_self a _
  rw [show (1 : Int) = ((1 : Nat) : Int) by rfl, bAnd_nat (by omega) (by omega), Nat.and_one_is_mod]
  simp only [Int.toNat_natCast, Nat.testBit_eq_decide_div_mod_eq]
  generalize a / 2 ^ n = z
  rw [Bool.eq_iff_iff, beq_iff_eq, decide_eq_true_eq]; omega
theorem spec_InSet_eq (u : Nat) (s i : Int) : spec_InSet u s i = some (M.inSet s i) := by
  unfold spec_InSet M.inSet
  simp only [spec_SetOk_eq, spec_l1In_eq, Option.bind_some]
  cases h1 : M.setOk s with
  | false => simp
  | true =>
    change ((bif true then (bif M.isPlace i then _ else _) else _) : Option Bool) = _
    cases h2 : M.isPlace i with
    | false => simp
    | true =>
      have h3 := within_t h2
      simp only [cond_true]
      rw [chk_dec (by omega)]
      simp [bit_eq h1 h2]
theorem bOr_shl8 {s c : Int} (h1 : 0 ≤ s) (h2 : s < 36028797018963968) (h3 : 0 ≤ c) (h4 : c ≤ 255) : bOr .i64 (bShl .i64 s 8) c = 256 * s + c := by
  obtain ⟨a, rfl⟩ := Int.eq_ofNat_of_zero_le h1
  obtain ⟨b, rfl⟩ := Int.eq_ofNat_of_zero_le h3
  have e : bShl .i64 (a : Int) 8 = ((a * 256 : Nat) : Int) := by
    unfold bShl
    rw [show min (Int.toNat (8 : Int)) (IntKind.bits .i64) = 8 by rfl]
    rw [wrap_i64 (by omega) (by omega)]; omega
  rw [e, bOr_nat (by omega) (by omega)]
  have h5 := Nat.shiftLeft_add_eq_or_of_lt (b := b) (i := 8) (by omega) a
  rw [Nat.shiftLeft_eq, show (2 : Nat) ^ 8 = 256 from rfl] at h5
  rw [← h5]; omega
theorem impl_SumOf_w (u : Nat) : ∀ (p b : List Int) (i : Nat) (s : Int) (n : Nat), M.isBytes b → 0 ≤ s → s < 256 ^ n * 2 → n + b.length ≤ 6 →
    wlist (impl_SumOf_l2_f u p) (impl_SumOf_l2_b u p) b i s = impl_SumOf_j1 u p (M.valS b s) := by
  intro p b
  induction b with
  | nil => intros; rfl
  | cons c b ih =>
    intro i s n hb h1 h2 h3
    have hc := hb c (by simp)
    simp only [List.length_cons] at h3
    have hp : (256 : Int) ^ n ≤ 1099511627776 := by
      rcases (show n = 0 ∨ n = 1 ∨ n = 2 ∨ n = 3 ∨ n = 4 ∨ n = 5 by omega) with rfl | rfl | rfl | rfl | rfl | rfl <;> decide
    simp only [wlist, impl_SumOf_l2_b]
    rw [wrap_i64 (by omega) (by omega), bOr_shl8 (by omega) (by omega) (by omega) (by omega)]
    exact ih (i + 1) _ (n + 1) (fun z hz => hb z (by simp [hz])) (by omega) (by rw [Int.pow_succ]; omega) (by omega)
theorem impl_SumOf_eq {u : Nat} (hu : 1099511627776 ≤ u) {b : List Int} (hb : M.isBytes b) (hl : b.length ≤ 1073741824) : impl_SumOf u b = some (M.sumOf b) := by
  unfold impl_SumOf M.sumOf
  by_cases h : 6 < b.length
  · have : (b.length : Int) > 6 := by omega
    simp [h, this]
  · have : ¬ ((b.length : Int) > 6) := by omega
    simp only [this, decide_false, cond_false, h, if_false]
    rw [impl_SumOf_l2_w u b 1 u (by omega) (by omega), impl_SumOf_w u b b 0 1 0 hb (by omega) (by decide) (by omega)]
    unfold impl_SumOf_j1
    rw [impl_WeakOf_eq hu hb hl]
    rfl
def M.win (b : List Int) (i n : Nat) : List Int := (b.take (i + n)).drop i
theorem win_eq (b : List Int) (i n : Nat) : M.win b i n = (b.drop i).take n := by
  unfold M.win; rw [List.drop_take]; congr 1; omega
theorem isBytes_win {b : List Int} (h : M.isBytes b) (i n : Nat) : M.isBytes (M.win b i n) := fun x hx => h x (List.mem_of_mem_take (List.mem_of_mem_drop hx))
theorem sliceOK_nat {a b n : Nat} (h1 : a ≤ b) (h2 : b ≤ n) : chk (sliceOK (a : Int) (b : Int) (n : Int)) = some () := by
  have : sliceOK (a : Int) (b : Int) (n : Int) = true := by simp [sliceOK]; omega
  rw [this]; rfl
theorem bAdd_nat {a b : Nat} (h : a + b ≤ 9223372036854775807) : bAdd .i64 (a : Int) (b : Int) = ((a + b : Nat) : Int) := by
  rw [bAdd_i64 (by omega) (by omega)]; omega
theorem impl_Slice_eq (u : Nat) {b : List Int} {i n : Nat} (h : i + n ≤ b.length) (hl : b.length ≤ 1073741824) : impl_Slice u b i n = some (M.win b i n, true) := by
  unfold impl_Slice impl_Slice_j1
  have h1 : M.within (i : Int) 0 (b.length : Int) = true := by simp [M.within]; omega
  have h2 : M.within (n : Int) 0 ((b.length : Int) - (i : Int)) = true := by simp [M.within]; omega
  simp only [impl_within_eq, h1, Option.bind_some, bSub_i64 (a := (b.length : Int)) (b := (i : Int)) (by omega) (by omega), h2, Bool.not_true, cond_false]
  rw [bAdd_nat (by omega), sliceOK_nat (by omega) h]
  simp only [Option.bind_some, Int.toNat_natCast]
  rw [impl_cloned_eq u (by simp; omega)]
  rfl
theorem sum_beq (x y : Sum) : (([x.fW, x.fS] : List Int) == [y.fW, y.fS]) = decide (x = y) := by
  obtain ⟨a, b⟩ := x
  obtain ⟨c, d⟩ := y
  rw [Bool.eq_iff_iff]; simp
theorem bytes_wf {b : List Int} (h : wSl (wInt .u8) b) : M.isBytes b := fun x hx => h.2 x hx
theorem putSums_length : ∀ (l : List Sum) (b : List Int), (M.putSums b l).length ≤ b.length + 10 * l.length := by
  intro l
  induction l with
  | nil => intro b; simp [M.putSums]
  | cons s l ih =>
    intro b
    have h1 := ih (b ++ M.var 9 s.fS)
    have h2 := var_length 9 s.fS
    simp only [M.putSums, List.length_cons, List.length_append] at h1 ⊢
    omega
def M.imgsOk (old : List Image) : Prop := ∀ x ∈ old, M.isBytes x.fB ∧ x.fB.length ≤ 1048576
theorem imgs_wf {l : List Image} (h : wSl Image.wf l) (hb : bulkL Image.bulk l ≤ 1048576) : M.imgsOk l := fun x hx => by
  have h1 : x.fB.length ≤ bulkL Image.bulk l := bulkL_mem (f := Image.bulk) hx
  exact ⟨bytes_wf (h.2 x hx).1, by omega⟩
theorem cond_some (b : Bool) : (bif b then some true else some false) = some b := by cases b <;> rfl
def M.all2 {α : Type} (f : α → α → Bool) : List α → List α → Bool
  | x :: xs, y :: ys => f x y && M.all2 f xs ys
  | _, _ => true
def M.same {α : Type} (f : α → α → Bool) (xs ys : List α) : Bool := (xs.length == ys.length) && M.all2 f xs ys
theorem wlist_all2 {α : Type} {fin : Unit → Option Bool} {body : α → Nat → Unit → (Unit → Option Bool) → Option Bool} (f : α → α → Bool) {xs ys : List α} (h : xs.length = ys.length) (hb : ∀ x y i k, xs[i]? = some x → ys[i]? = some y → body x i () k = bif f x y then k () else some false) :
    wlist fin body xs 0 () = bif M.all2 f xs ys then fin () else some false := by
  have : ∀ (l m : List α) (i : Nat), l = xs.drop i → m = ys.drop i → wlist fin body l i () = bif M.all2 f l m then fin () else some false := by
    intro l
    induction l with
    | nil => intro m i _ _; simp [wlist, M.all2]
    | cons x l ih =>
      intro m i h1 h2
      have hlt : i < xs.length := by have := congrArg List.length h1; simp at this; omega
      cases m with
      | nil => have := congrArg List.length h2; simp at this; omega
      | cons y m =>
        have hx : xs[i]? = some x := by have := congrArg List.head? h1; simpa [List.head?_drop] using this.symm
        have hy : ys[i]? = some y := by have := congrArg List.head? h2; simpa [List.head?_drop] using this.symm
        have hl : l = xs.drop (i + 1) := by have := congrArg List.tail h1; simpa [List.tail_drop] using this
        have hm : m = ys.drop (i + 1) := by have := congrArg List.tail h2; simpa [List.tail_drop] using this
        simp only [wlist, M.all2]
        rw [hb x y i _ hx hy, ih m (i + 1) hl hm]
        cases f x y <;> simp
  exact this xs ys 0 (by simp) (by simp)
def M.sameBytes (a b : List Int) : Bool := (strOfNums a).toList == (strOfNums b).toList
theorem impl_SameBytes_eq (u : Nat) (a b : List Int) : impl_SameBytes u a b = some (M.sameBytes a b) := rfl
theorem spec_l6SameSums_eq {u : Nat} (hu : 1099511627776 ≤ u) {a b : List Sum} (ha : a.length ≤ 1048576) : spec_l6SameSums u a b = some (M.same (fun x y => decide (x = y)) a b) := by
  unfold spec_l6SameSums M.same
  by_cases h : a.length = b.length
  · have h1 : ((a.length : Int) != (b.length : Int)) = false := by simp [h]
    simp only [h1, cond_false]
    rw [spec_l6SameSums_l2_w u a b () u (by omega) (by omega), wlist_all2 (fun x y => decide (x = y)) h (fun x y i k hx hy => by unfold spec_l6SameSums_l2_b; rw [idx_nat, hy]; simp only [Option.bind_some, sum_beq]; cases decide (x = y) <;> rfl)]
    simp only [h, beq_self_eq_true, Bool.true_and]
    exact cond_some _
  · have h1 : ((a.length : Int) != (b.length : Int)) = true := by simp; omega
    have h2 : (a.length == b.length) = false := by simpa using h
    simp [h1, h2]
def M.sameMan (a b : Manifest) : Bool := (a.fGen == b.fGen) && (a.fSize == b.fSize) && (a.fLen == b.fLen) && M.same (fun x y => decide (x = y)) a.fSums b.fSums
theorem spec_SameMan_eq {u : Nat} (hu : 1099511627776 ≤ u) {a b : Manifest} (ha : a.fSums.length ≤ 1048576) : spec_SameMan u a b = some (M.sameMan a b) := by
  unfold spec_SameMan M.sameMan
  rw [spec_l6SameSums_eq hu ha]
  cases a.fGen == b.fGen <;> cases a.fSize == b.fSize <;> cases a.fLen == b.fLen <;> simp
def M.nodesOk (l : List Node) : Prop := ∀ x ∈ l, x.fMan.fSums.length ≤ 1048576 ∧ x.fKids.length ≤ 1048576
def M.disksOk (l : List Disk) : Prop := ∀ x ∈ l, x.fP.length ≤ 1048576
structure M.WorldOk (w : World) : Prop where
  up : w.fT.fUp.length ≤ 1048576
  new : w.fNew.length ≤ 1048576
  old : w.fOld.length ≤ 1048576
  oldB : M.imgsOk w.fOld
  n : w.fN.length ≤ 1048576
  nodes : M.nodesOk w.fN
  d : w.fD.length ≤ 1048576
  disks : M.disksOk w.fD
  net : w.fNet.length ≤ 1048576
  log : w.fLog.length ≤ 1048576
theorem worldOk {w : World} (hw : World.wf w) (hb : World.bulk w ≤ 1048576) : M.WorldOk w := by
  have h0 := hb
  unfold World.bulk at h0
  have h1 := bulkL_len (f := Image.bulk) w.fOld
  have h2 := bulkL_len (f := Node.bulk) w.fN
  have h3 := bulkL_len (f := Disk.bulk) w.fD
  have h4 := bulkL_len (f := Packet.bulk) w.fNet
  obtain ⟨_, _, _, h5, _⟩ := hw
  have e1 : Tree.bulk w.fT = w.fT.fUp.length := rfl
  refine ⟨by omega, by omega, by omega, imgs_wf h5 (by omega), by omega, fun x hx => ?_, by omega, fun x hx => ?_, by omega, by omega⟩
  · have h6 := bulkL_mem (f := Node.bulk) hx
    unfold Node.bulk Manifest.bulk at h6
    have h7 : Node.bulk x = x.fMan.fSums.length + (x.fBld.fBuf.length + x.fKids.length) := rfl
    have h8 := bulkL_mem (f := Node.bulk) hx
    omega
  · have h8 := bulkL_mem (f := Disk.bulk) hx
    have h7 : Disk.bulk x = x.fA.length + (x.fB.length + bulkL Put.bulk x.fP) := rfl
    have h9 := bulkL_len (f := Put.bulk) x.fP
    omega
theorem len_beq (a b : Nat) : ((a : Int) == (b : Int)) = (a == b) := by rw [Bool.eq_iff_iff, beq_iff_eq, beq_iff_eq]; omega
def M.stp (c : Int) : Option (Int × Nat) → Option (Int × Nat)
  | some (v, n) => some (v * 128 + (c - 128), n + 1)
  | none => none
def M.rd : Nat → Bool → List Int → Option (Int × Nat)
  | 0, _, _ => none
  | _ + 1, _, [] => none
  | k + 1, f, c :: l => if c < 128 then (if f || decide (0 < c) then some (c, 1) else none) else M.stp c (M.rd k false l)
theorem rd_var : ∀ (k : Nat) (f : Bool) (l : List Int) (w : Int) (j : Nat), M.isBytes l → M.rd k f l = some (w, j) → 0 ≤ w ∧ (f = false → 0 < w) ∧ j ≤ l.length ∧ 1 ≤ j ∧ w < 128 ^ k ∧ ∀ K, k ≤ K + 1 → l.take j = M.var K w := by
  intro k
  induction k with
  | zero => intro f l w j _ h; simp [M.rd] at h
  | succ k ih =>
    intro f l w j hb h
    cases l with
    | nil => simp [M.rd] at h
    | cons c l =>
      have hc := hb c (by simp)
      unfold M.rd at h
      by_cases hc1 : c < 128
      · rw [if_pos hc1] at h
        split at h
        · rename_i hf
          simp only [Option.some.injEq, Prod.mk.injEq] at h
          obtain ⟨rfl, rfl⟩ := h
          have hp : (128 : Int) ≤ 128 ^ (k + 1) := by
            rw [Int.pow_succ]; have : (0 : Int) < 128 ^ k := Int.pow_pos (by decide); omega
          refine ⟨hc.1, fun h0 => by subst h0; simpa using hf, by simp, by omega, by omega, fun K _ => ?_⟩
          cases K with
          | zero => simp [M.var]; omega
          | succ K => unfold M.var; rw [if_pos (by omega)]; simp; omega
        · cases h
      · rw [if_neg hc1] at h
        cases hr : M.rd k false l with
        | none => rw [hr] at h; cases h
        | some q =>
          obtain ⟨v, n⟩ := q
          rw [hr] at h
          simp only [M.stp, Option.some.injEq, Prod.mk.injEq] at h
          obtain ⟨rfl, rfl⟩ := h
          obtain ⟨h1, h2, h3, h4, h5, h6⟩ := ih false l v n (fun x hx => hb x (by simp [hx])) hr
          have h2 := h2 rfl
          have hk : k ≠ 0 := by intro h0; subst h0; simp [M.rd] at hr
          refine ⟨by omega, fun _ => by omega, by simp; omega, by omega, by rw [Int.pow_succ]; omega, fun K hK => ?_⟩
          obtain ⟨K, rfl⟩ : ∃ K', K = K' + 1 := ⟨K - 1, by omega⟩
          unfold M.var
          rw [if_neg (by omega), List.take_succ_cons, h6 K (by omega)]
          congr 1
          · omega
          · congr 1; omega
theorem var_rd : ∀ (k K : Nat) (f : Bool) (n : Int) (t : List Int), 1 ≤ k → 0 ≤ n → (f = false → 0 < n) → n < 128 ^ k → k ≤ K + 1 → M.rd k f (M.var K n ++ t) = some (n, (M.var K n).length) := by
  intro k
  induction k with
  | zero => intro K f n t h0; omega
  | succ k ih =>
    intro K f n t h0 h1 h2 h3 h4
    by_cases h : n ≤ 127
    · have e : M.var K n = [n] := by
        cases K with
        | zero => simp [M.var]; omega
        | succ K => unfold M.var; rw [if_pos h]; simp; omega
      rw [e]
      simp only [List.singleton_append, M.rd, List.length_singleton]
      rw [if_pos (by omega), if_pos (by cases f <;> simp; exact h2 rfl)]
    · have hk : k ≠ 0 := by
        intro h0; subst h0
        rw [show (128 : Int) ^ (0 + 1) = 128 by rfl] at h3; omega
      obtain ⟨K, rfl⟩ : ∃ K', K = K' + 1 := ⟨K - 1, by omega⟩
      unfold M.var
      rw [if_neg h]
      simp only [List.cons_append, M.rd]
      rw [if_neg (by omega), ih K false (n / 128) t (by omega) (by omega) (fun _ => by omega) (by rw [Int.pow_succ] at h3; omega) (by omega)]
      simp only [M.stp, List.length_cons, Option.some.injEq, Prod.mk.injEq, and_true]
      omega
theorem bShl_nat {a n : Nat} (hn : n ≤ 62) (h : a * 2 ^ n < 9223372036854775808) : bShl .i64 (a : Int) (n : Int) = ((a * 2 ^ n : Nat) : Int) := by
  unfold bShl
  rw [show min (Int.toNat (n : Int)) (IntKind.bits .i64) = n by simp [IntKind.bits]; omega]
  have e : (a : Int) * 2 ^ n = ((a * 2 ^ n : Nat) : Int) := by simp
  rw [e]
  exact wrap_i64 (by omega) (by omega)
theorem or_add {v a n : Nat} (hv : v < 2 ^ n) : v ||| a * 2 ^ n = v + a * 2 ^ n := by
  have h := Nat.shiftLeft_add_eq_or_of_lt hv a
  rw [Nat.shiftLeft_eq] at h
  rw [Nat.or_comm, ← h, Nat.add_comm]
theorem acc_eq {v i : Nat} {c : Int} (hi : i ≤ 7) (hv : v < 2 ^ (7 * i)) (h1 : 0 ≤ c) (h2 : c ≤ 255) : bOr .i64 (v : Int) (bShl .i64 (bAnd .i64 (IntKind.wrap .i64 c) 127) (bMul .i64 7 (i : Int))) = ((v + (c % 128).toNat * 2 ^ (7 * i) : Nat) : Int) ∧ v + (c % 128).toNat * 2 ^ (7 * i) < 2 ^ (7 * (i + 1)) := by
  have hp : (2 : Nat) ^ (7 * i) ≤ 2 ^ 49 := Nat.pow_le_pow_right (by omega) (by omega)
  have hq : (2 : Nat) ^ (7 * (i + 1)) = 128 * 2 ^ (7 * i) := by rw [Nat.mul_add, Nat.pow_add, Nat.mul_comm]
  have hc : (c % 128).toNat < 128 := by omega
  have hm : (c % 128).toNat * 2 ^ (7 * i) ≤ 127 * 2 ^ (7 * i) := Nat.mul_le_mul_right _ (by omega)
  rw [wrap_i64 (by omega) (by omega), bAnd127, bMul_i64 (by omega) (by omega), show (7 : Int) * (i : Int) = ((7 * i : Nat) : Int) by omega, show c % 128 = (((c % 128).toNat : Nat) : Int) by omega]
  rw [show (((c % 128).toNat : Nat) : Int).toNat = (c % 128).toNat by omega]
  have hp2 : (2 : Nat) ^ 49 = 562949953421312 := by decide
  rw [bShl_nat (by omega) (by omega), bOr_nat (by omega) (by omega), or_add hv]
  exact ⟨rfl, by omega⟩
def M.rdRes (o : Option (Int × Nat)) (v i a : Nat) (r : Int × Int × Bool) : Prop := match o with
  | some (w, j) => r = ((v : Int) + w * 2 ^ (7 * i), ((a + j : Nat) : Int), true)
  | none => r.2.2 = false
theorem rdRes_step {o : Option (Int × Nat)} {v i a x : Nat} {c : Int} {r : Int × Int × Bool} (hx : (x : Int) = c - 128) (h : M.rdRes o (v + x * 2 ^ (7 * i)) (i + 1) (a + 1) r) : M.rdRes (M.stp c o) v i a r := by
  cases o with
  | none => exact h
  | some q =>
    obtain ⟨w, j⟩ := q
    unfold M.rdRes at h
    unfold M.rdRes M.stp
    dsimp only at h ⊢
    rw [h]
    refine Prod.ext ?_ (Prod.ext ?_ rfl)
    · dsimp only
      rw [show 7 * (i + 1) = 7 * i + 7 by omega, Int.pow_add, ← hx]
      have : ((v + x * 2 ^ (7 * i) : Nat) : Int) = (v : Int) + (x : Int) * 2 ^ (7 * i) := by simp
      rw [this]
      generalize (2 : Int) ^ (7 * i) = p
      rw [show (2 : Int) ^ 7 = 128 by rfl, Int.add_mul, Int.mul_assoc w 128 p, Int.mul_comm p 128]
      omega
    · dsimp only; omega
theorem drop_get {α : Type} {b : List α} {a : Nat} (h : a < b.length) : b.drop a = b[a] :: b.drop (a + 1) := List.drop_eq_getElem_cons h
theorem readVar_w (u : Nat) {b : List Int} (hb : M.isBytes b) (hl : b.length ≤ 1048576) (a n : Nat) (hn : n ≤ 8) : ∀ (m i k v : Nat), i + m = n → m < k → v < 2 ^ (7 * i) → ∃ r, impl_readVar_l2 u k b a v n i = some r ∧ M.rdRes (M.rd m (i == 0) (b.drop (a + i))) v i (a + i) r := by
  intro m
  induction m with
  | zero =>
    intro i k v h1 h2 h3
    obtain ⟨k, rfl⟩ : ∃ j, k = j + 1 := ⟨k - 1, by omega⟩
    have e : ¬ ((i : Int) < (n : Int)) := by omega
    refine ⟨(0, 0, false), ?_, rfl⟩
    unfold impl_readVar_l2 impl_readVar_j1
    simp only [e, decide_false, cond_false]
  | succ m ih =>
    intro i k v h1 h2 h3
    obtain ⟨k, rfl⟩ : ∃ j, k = j + 1 := ⟨k - 1, by omega⟩
    have e : (i : Int) < (n : Int) := by omega
    unfold impl_readVar_l2
    simp only [e, decide_true, cond_true]
    rw [bSub_i64 (a := (b.length : Int)) (by omega) (by omega), bSub_i64 (by omega) (by omega), impl_within_eq]
    simp only [Option.bind_some]
    by_cases ha : a + i < b.length
    · rw [show M.within (a : Int) 0 ((b.length : Int) - 1 - (i : Int)) = true by simp [M.within]; omega, drop_get ha, bAdd_i64 (a := (a : Int)) (by omega) (by omega), show (a : Int) + (i : Int) = ((a + i : Nat) : Int) by omega, idx_nat, List.getElem?_eq_getElem ha]
      have hc := hb b[a + i] (List.getElem_mem ha)
      obtain ⟨e1, e2⟩ := acc_eq (i := i) (by omega) h3 hc.1 hc.2
      simp only [Bool.not_true, cond_false, Option.bind_some]
      rw [e1, bMul_i64 (by omega) (by omega), chk_dec (by omega), wrap_i64 (by omega) (by omega), bAdd_i64 (a := ((a + i : Nat) : Int)) (by omega) (by omega), bAdd_succ (by omega)]
      simp only [Option.bind_some, M.rd]
      by_cases hc1 : b[a + i] < 128
      · simp only [hc1, decide_true, cond_true, if_true]
        have hv : ((v + (b[a + i] % 128).toNat * 2 ^ (7 * i) : Nat) : Int) = (v : Int) + b[a + i] * 2 ^ (7 * i) := by
          have : ((v + (b[a + i] % 128).toNat * 2 ^ (7 * i) : Nat) : Int) = (v : Int) + (((b[a + i] % 128).toNat : Nat) : Int) * 2 ^ (7 * i) := by simp
          rw [this, show (((b[a + i] % 128).toNat : Nat) : Int) = b[a + i] by omega]
        rw [hv]
        by_cases h0 : i = 0
        · subst h0
          refine ⟨_, rfl, ?_⟩
          simp [M.rdRes]
        · have e3 : ((i : Int) == 0) = false := by simp; omega
          have e4 : (i == 0) = false := by simpa using h0
          simp only [e3, e4, cond_false, Bool.false_or]
          refine ⟨_, rfl, ?_⟩
          by_cases hc2 : 0 < b[a + i]
          · have hc3 : b[a + i] > 0 := hc2
            simp only [hc2, hc3, decide_true, if_true, M.rdRes]
            refine Prod.ext rfl (Prod.ext ?_ rfl)
            dsimp only; omega
          · have hc3 : ¬ b[a + i] > 0 := hc2
            simp only [hc2, hc3, decide_false, Bool.false_eq_true, if_false, M.rdRes]
      · simp only [hc1, decide_false, cond_false, if_false]
        obtain ⟨r, g1, g2⟩ := ih (i + 1) k _ (by omega) (by omega) e2
        refine ⟨r, g1, rdRes_step (x := (b[a + i] % 128).toNat) (by omega) ?_⟩
        rw [show (i + 1 == 0) = false by rfl] at g2
        exact g2
    · rw [show M.within (a : Int) 0 ((b.length : Int) - 1 - (i : Int)) = false by simp [M.within]; omega, List.drop_of_length_le (by omega)]
      exact ⟨(0, 0, false), rfl, rfl⟩
def M.rdAt (n : Nat) (b : List Int) (a : Int) : Option (Int × Int) := if 0 ≤ a then match M.rd n true (b.drop a.toNat) with
    | some (v, j) => some (v, a + j)
    | none => none
  else none
theorem readVar_eq {u : Nat} (hu : 1099511627776 ≤ u) {b : List Int} (hb : M.isBytes b) (hl : b.length ≤ 1048576) (a : Int) (n : Nat) (h1 : 1 ≤ n) (hn : n ≤ 8) : ∃ r, impl_readVar u b a n = some r ∧ (match M.rdAt n b a with | some (v, e) => r = (v, e, true) | none => r.2.2 = false) := by
  unfold impl_readVar M.rdAt
  by_cases ha : 0 ≤ a
  · obtain ⟨a, rfl⟩ := Int.eq_ofNat_of_zero_le ha
    obtain ⟨r, g1, g2⟩ := readVar_w u hb hl a n hn n 0 u 0 (by omega) (by omega) (by simp)
    refine ⟨r, g1, ?_⟩
    rw [if_pos ha, Int.toNat_natCast]
    rw [Nat.add_zero] at g2
    unfold M.rdRes at g2
    cases hr : M.rd n true (b.drop a) with
    | none => rw [show ((0 == 0 : Bool)) = true by rfl, hr] at g2; exact g2
    | some q => obtain ⟨w, j⟩ := q; rw [show ((0 == 0 : Bool)) = true by rfl, hr] at g2; simpa using g2
  · obtain ⟨u, rfl⟩ : ∃ j, u = j + 1 := ⟨u - 1, by omega⟩
    rw [if_neg ha]
    refine ⟨(0, 0, false), ?_, rfl⟩
    unfold impl_readVar_l2
    have e : (0 : Int) < (n : Int) := by omega
    simp only [e, decide_true, cond_true]
    rw [bSub_i64 (a := (b.length : Int)) (by omega) (by omega), bSub_i64 (by omega) (by omega), impl_within_eq, show M.within a 0 ((b.length : Int) - 1 - 0) = false by simp [M.within]; omega]
    rfl
def M.getVar (b : List Int) (a : Int) : Int × Int × Bool := match M.rdAt 6 b a with
  | some (v, e) => if v ≤ 1000000000000 then (v, e, true) else (0, 0, false)
  | none => (0, 0, false)
theorem impl_GetVar_eq {u : Nat} (hu : 1099511627776 ≤ u) {b : List Int} (hb : M.isBytes b) (hl : b.length ≤ 1048576) (a : Int) : impl_GetVar u b a = some (M.getVar b a) := by
  obtain ⟨r, g1, g2⟩ := readVar_eq hu hb hl a 6 (by omega) (by omega)
  unfold impl_GetVar M.getVar
  rw [show ((6 : Nat) : Int) = 6 by rfl] at g1
  rw [g1]
  simp only [Option.bind_some]
  cases hr : M.rdAt 6 b a with
  | none => rw [hr] at g2; rw [g2]; rfl
  | some q =>
    obtain ⟨v, e⟩ := q
    rw [hr] at g2
    rw [g2]
    by_cases h : v ≤ 1000000000000
    · have : ¬ v > 1000000000000 := by omega
      simp [h, this, impl_GetVar_j1]
    · have : v > 1000000000000 := by omega
      simp [h, this, impl_GetVar_j1]
theorem l6GetSum_w (u : Nat) {b : List Int} (hb : M.isBytes b) (hl : b.length ≤ 1048576) (a : Nat) : ∀ (m i k v : Nat), i + m = 8 → m < k → v < 2 ^ (7 * i) → ∃ r, spec_l6GetSum_l2 u k b a v i = some r ∧ M.rdRes (M.rd m (i == 0) (b.drop (a + i))) v i (a + i) r := by
  intro m
  induction m with
  | zero =>
    intro i k v h1 h2 h3
    obtain ⟨k, rfl⟩ : ∃ j, k = j + 1 := ⟨k - 1, by omega⟩
    have e : ¬ ((i : Int) < 8) := by omega
    refine ⟨(0, 0, false), ?_, rfl⟩
    unfold spec_l6GetSum_l2 spec_l6GetSum_j1
    simp only [e, decide_false, cond_false]
  | succ m ih =>
    intro i k v h1 h2 h3
    obtain ⟨k, rfl⟩ : ∃ j, k = j + 1 := ⟨k - 1, by omega⟩
    have e : (i : Int) < 8 := by omega
    unfold spec_l6GetSum_l2
    simp only [e, decide_true, cond_true]
    rw [bSub_i64 (a := (b.length : Int)) (by omega) (by omega)]
    by_cases ha : a + i < b.length
    · have e0 : ¬ ((a : Int) ≥ (b.length : Int) - (i : Int)) := by omega
      rw [drop_get ha, bAdd_i64 (a := (a : Int)) (by omega) (by omega), show (a : Int) + (i : Int) = ((a + i : Nat) : Int) by omega, idx_nat, List.getElem?_eq_getElem ha]
      have hc := hb b[a + i] (List.getElem_mem ha)
      obtain ⟨e1, e2⟩ := acc_eq (i := i) (by omega) h3 hc.1 hc.2
      simp only [e0, decide_false, cond_false, Option.bind_some]
      rw [e1, bMul_i64 (by omega) (by omega), chk_dec (by omega), wrap_i64 (by omega) (by omega), bAdd_i64 (a := ((a + i : Nat) : Int)) (by omega) (by omega), bAdd_succ (by omega)]
      simp only [Option.bind_some, M.rd]
      by_cases hc1 : b[a + i] < 128
      · simp only [hc1, decide_true, cond_true, if_true]
        have hv : ((v + (b[a + i] % 128).toNat * 2 ^ (7 * i) : Nat) : Int) = (v : Int) + b[a + i] * 2 ^ (7 * i) := by
          have : ((v + (b[a + i] % 128).toNat * 2 ^ (7 * i) : Nat) : Int) = (v : Int) + (((b[a + i] % 128).toNat : Nat) : Int) * 2 ^ (7 * i) := by simp
          rw [this, show (((b[a + i] % 128).toNat : Nat) : Int) = b[a + i] by omega]
        rw [hv]
        by_cases hc2 : 0 < b[a + i]
        · have hc3 : b[a + i] > 0 := hc2
          simp only [hc2, hc3, decide_true, cond_true, Bool.or_true, if_true, M.rdRes]
          refine ⟨_, rfl, Prod.ext rfl (Prod.ext ?_ rfl)⟩
          dsimp only; omega
        · have hc3 : ¬ b[a + i] > 0 := hc2
          simp only [hc2, hc3, decide_false, cond_false, Bool.or_false]
          refine ⟨_, rfl, ?_⟩
          by_cases h0 : i = 0
          · subst h0; simp [M.rdRes]
          · have e4 : (i == 0) = false := by simpa using h0
            simp only [e4, Bool.false_eq_true, if_false, M.rdRes]
            simp; omega
      · simp only [hc1, decide_false, cond_false, if_false]
        obtain ⟨r, g1, g2⟩ := ih (i + 1) k _ (by omega) (by omega) e2
        refine ⟨r, g1, rdRes_step (x := (b[a + i] % 128).toNat) (by omega) ?_⟩
        rw [show (i + 1 == 0) = false by rfl] at g2
        exact g2
    · have e0 : (a : Int) ≥ (b.length : Int) - (i : Int) := by omega
      simp only [e0, decide_true, cond_true]
      rw [List.drop_of_length_le (by omega)]
      exact ⟨(0, 0, false), rfl, rfl⟩
theorem l6GetSum_eq {u : Nat} (hu : 1099511627776 ≤ u) {b : List Int} (hb : M.isBytes b) (hl : b.length ≤ 1048576) {a : Int} (ha : 0 ≤ a) : ∃ r, spec_l6GetSum u b a = some r ∧ (match M.rdAt 8 b a with | some (v, e) => r = (v, e, true) | none => r.2.2 = false) := by
  unfold spec_l6GetSum M.rdAt
  obtain ⟨a, rfl⟩ := Int.eq_ofNat_of_zero_le ha
  obtain ⟨r, g1, g2⟩ := l6GetSum_w u hb hl a 8 0 u 0 (by omega) (by omega) (by simp)
  refine ⟨r, g1, ?_⟩
  rw [if_pos ha, Int.toNat_natCast]
  rw [Nat.add_zero] at g2
  unfold M.rdRes at g2
  cases hr : M.rd 8 true (b.drop a) with
  | none => rw [show ((0 == 0 : Bool)) = true by rfl, hr] at g2; exact g2
  | some q => obtain ⟨w, j⟩ := q; rw [show ((0 == 0 : Bool)) = true by rfl, hr] at g2; simpa using g2
def M.gv (o : Option (Int × Nat)) (v i a : Nat) : Int × Int × Bool := match o with
  | some (w, j) => if (v : Int) + w * 2 ^ (7 * i) ≤ 1000000000000 then ((v : Int) + w * 2 ^ (7 * i), ((a + j : Nat) : Int), true) else (0, 0, false)
  | none => (0, 0, false)
theorem gv_step (o : Option (Int × Nat)) (v i a x : Nat) (c : Int) (hx : (x : Int) = c - 128) : M.gv (M.stp c o) v i a = M.gv o (v + x * 2 ^ (7 * i)) (i + 1) (a + 1) := by
  cases o with
  | none => rfl
  | some q =>
    obtain ⟨w, j⟩ := q
    unfold M.gv M.stp
    dsimp only
    have e : (v : Int) + (w * 128 + (c - 128)) * 2 ^ (7 * i) = ((v + x * 2 ^ (7 * i) : Nat) : Int) + w * 2 ^ (7 * (i + 1)) := by
      rw [show 7 * (i + 1) = 7 * i + 7 by omega, Int.pow_add, ← hx]
      have : ((v + x * 2 ^ (7 * i) : Nat) : Int) = (v : Int) + (x : Int) * 2 ^ (7 * i) := by simp
      rw [this]
      generalize (2 : Int) ^ (7 * i) = p
      rw [show (2 : Int) ^ 7 = 128 by rfl, Int.add_mul, Int.mul_assoc w 128 p, Int.mul_comm p 128]
      omega
    rw [e, show a + (j + 1) = a + 1 + j by omega]
theorem spec_GetVar_w (u : Nat) {b : List Int} (hb : M.isBytes b) (hl : b.length ≤ 1048576) (a : Nat) : ∀ (m i k v : Nat), i + m = 6 → m < k → v < 2 ^ (7 * i) → spec_GetVar_l2 u k b a v i = some (M.gv (M.rd m (i == 0) (b.drop (a + i))) v i (a + i)) := by
  intro m
  induction m with
  | zero =>
    intro i k v h1 h2 h3
    obtain ⟨k, rfl⟩ : ∃ j, k = j + 1 := ⟨k - 1, by omega⟩
    have e : ¬ ((i : Int) < 6) := by omega
    unfold spec_GetVar_l2 spec_GetVar_j1
    simp only [e, decide_false, cond_false]; rfl
  | succ m ih =>
    intro i k v h1 h2 h3
    obtain ⟨k, rfl⟩ : ∃ j, k = j + 1 := ⟨k - 1, by omega⟩
    have e : (i : Int) < 6 := by omega
    have en : ¬ ((a : Int) < 0) := by omega
    unfold spec_GetVar_l2 spec_GetVar_j3
    simp only [e, en, decide_true, decide_false, cond_true, cond_false]
    rw [bSub_i64 (a := (b.length : Int)) (by omega) (by omega)]
    by_cases ha : a + i < b.length
    · have e0 : ¬ ((a : Int) ≥ (b.length : Int) - (i : Int)) := by omega
      rw [drop_get ha, bAdd_i64 (a := (a : Int)) (by omega) (by omega), show (a : Int) + (i : Int) = ((a + i : Nat) : Int) by omega, idx_nat, List.getElem?_eq_getElem ha]
      have hc := hb b[a + i] (List.getElem_mem ha)
      obtain ⟨e1, e2⟩ := acc_eq (i := i) (by omega) h3 hc.1 hc.2
      simp only [e0, decide_false, cond_false, Option.bind_some]
      unfold spec_GetVar_j4
      rw [e1, bMul_i64 (by omega) (by omega), chk_dec (by omega), wrap_i64 (by omega) (by omega), bAdd_i64 (a := (a : Int)) (b := (i : Int)) (by omega) (by omega), bAdd_i64 (a := (a : Int) + (i : Int)) (by omega) (by omega), bAdd_succ (by omega)]
      simp only [Option.bind_some, M.rd]
      by_cases hc1 : b[a + i] < 128
      · simp only [hc1, decide_true, cond_true, if_true]
        have hv : ((v + (b[a + i] % 128).toNat * 2 ^ (7 * i) : Nat) : Int) = (v : Int) + b[a + i] * 2 ^ (7 * i) := by
          have : ((v + (b[a + i] % 128).toNat * 2 ^ (7 * i) : Nat) : Int) = (v : Int) + (((b[a + i] % 128).toNat : Nat) : Int) * 2 ^ (7 * i) := by simp
          rw [this, show (((b[a + i] % 128).toNat : Nat) : Int) = b[a + i] by omega]
        rw [hv]
        have hgt : ∀ x : Int, decide (x > 1000000000000) = !decide (x ≤ 1000000000000) := fun x => by rw [← decide_not, decide_eq_decide]; omega
        have hs : ((a : Int) + (i : Int) + 1) = ((a + i + 1 : Nat) : Int) := by omega
        rw [hs]
        by_cases hc2 : b[a + i] = 0
        · have e5 : ¬ (0 < b[a + i]) := by omega
          have e6 : (b[a + i] == 0) = true := by simpa using hc2
          by_cases h0 : i = 0
          · subst h0
            have hv0 : v = 0 := by simpa using h3
            subst hv0
            simp only [e6, cond_true, hgt, M.gv]
            rw [hc2]
            rfl
          · have e4 : (i == 0) = false := by simpa using h0
            have e7 : (i : Int) > 0 := by omega
            simp only [e4, e5, e6, e7, decide_true, decide_false, cond_true, Bool.or_false, Bool.false_eq_true, if_false, M.gv]
        · have e5 : 0 < b[a + i] := by omega
          have e6 : (b[a + i] == 0) = false := by simpa using hc2
          simp only [e5, e6, decide_true, cond_false, Bool.or_true, if_true, hgt, M.gv]
          by_cases hq : (v : Int) + b[a + i] * 2 ^ (7 * i) ≤ 1000000000000
          · simp [hq]
          · simp [hq]
      · simp only [hc1, decide_false, cond_false, if_false]
        rw [ih (i + 1) k _ (by omega) (by omega) e2, show (i + 1 == 0) = false by rfl, gv_step _ v i (a + i) (b[a + i] % 128).toNat _ (by omega)]
        rfl
    · have e0 : (a : Int) ≥ (b.length : Int) - (i : Int) := by omega
      simp only [e0, decide_true, cond_true]
      rw [List.drop_of_length_le (by omega)]; rfl
theorem spec_GetVar_eq {u : Nat} (hu : 1099511627776 ≤ u) {b : List Int} (hb : M.isBytes b) (hl : b.length ≤ 1048576) (a : Int) : spec_GetVar u b a = some (M.getVar b a) := by
  unfold spec_GetVar M.getVar M.rdAt
  by_cases ha : 0 ≤ a
  · obtain ⟨a, rfl⟩ := Int.eq_ofNat_of_zero_le ha
    have h := spec_GetVar_w u hb hl a 6 0 u 0 (by omega) (by omega) (by simp)
    rw [Nat.add_zero] at h
    rw [show spec_GetVar_l2 u u b (a : Int) 0 0 = _ from h, if_pos ha, Int.toNat_natCast, show (0 == 0 : Bool) = true by rfl]
    unfold M.gv
    cases M.rd 6 true (b.drop a) with
    | none => rfl
    | some q => obtain ⟨w, j⟩ := q; simp
  · obtain ⟨u, rfl⟩ : ∃ j, u = j + 1 := ⟨u - 1, by omega⟩
    rw [if_neg ha]
    unfold spec_GetVar_l2 spec_GetVar_j3
    have e : a < 0 := by omega
    simp [e]
theorem take_add_drop {α : Type} (b : List α) (a j : Nat) : b.take (a + j) = b.take a ++ (b.drop a).take j := List.take_add
theorem rdAt_put {n : Nat} {b : List Int} {a v e : Int} (hb : M.isBytes b) (h : M.rdAt n b a = some (v, e)) (hn : n ≤ 10) : 0 ≤ a ∧ a < e ∧ e ≤ b.length ∧ 0 ≤ v ∧ v < 128 ^ n ∧ b.take e.toNat = b.take a.toNat ++ M.var 9 v := by
  unfold M.rdAt at h
  by_cases ha : 0 ≤ a
  · rw [if_pos ha] at h
    cases hr : M.rd n true (b.drop a.toNat) with
    | none => rw [hr] at h; cases h
    | some q =>
      obtain ⟨w, j⟩ := q
      rw [hr] at h
      simp only [Option.some.injEq, Prod.mk.injEq] at h
      obtain ⟨rfl, rfl⟩ := h
      obtain ⟨h1, h2, h3, h4, h5, h6⟩ := rd_var n true _ w j (fun x hx => hb x (List.mem_of_mem_drop hx)) hr
      rw [List.length_drop] at h3
      refine ⟨ha, by omega, by omega, h1, h5, ?_⟩
      rw [show (a + (j : Int)).toNat = a.toNat + j by omega, take_add_drop, h6 9 (by omega)]
  · rw [if_neg ha] at h; cases h
theorem getVar_put {b : List Int} {a v e : Int} (hb : M.isBytes b) (h : M.getVar b a = (v, e, true)) : 0 ≤ a ∧ a < e ∧ e ≤ b.length ∧ 0 ≤ v ∧ v ≤ 1000000000000 ∧ b.take e.toNat = b.take a.toNat ++ M.var 9 v := by
  unfold M.getVar at h
  cases hr : M.rdAt 6 b a with
  | none => rw [hr] at h; cases h
  | some q =>
    obtain ⟨w, e'⟩ := q
    rw [hr] at h
    dsimp only at h
    split at h
    · simp only [Prod.mk.injEq, and_true] at h
      obtain ⟨rfl, rfl⟩ := h
      have := rdAt_put hb hr (by omega)
      exact ⟨this.1, this.2.1, this.2.2.1, this.2.2.2.1, by assumption, this.2.2.2.2.2⟩
    · cases h
theorem getVar_cases (b : List Int) (a : Int) : (∃ v e, M.getVar b a = (v, e, true)) ∨ M.getVar b a = (0, 0, false) := by
  unfold M.getVar
  split
  · split
    · exact .inl ⟨_, _, rfl⟩
    · exact .inr rfl
  · exact .inr rfl
theorem getVar_var {p : List Int} {n : Int} (t : List Int) (h0 : 0 ≤ n) (h1 : n ≤ 1000000000000) : M.getVar (p ++ M.var 9 n ++ t) p.length = (n, ((p.length + (M.var 9 n).length : Nat) : Int), true) := by
  unfold M.getVar M.rdAt
  rw [if_pos (by omega), Int.toNat_natCast, List.append_assoc, List.drop_left, var_rd 6 9 true n t (by omega) h0 (fun h => by cases h) (by rw [show (128 : Int) ^ 6 = 4398046511104 by decide]; omega) (by omega)]
  simp [h1]
def M.zeroMan (m : Manifest) : Bool := (m.fGen == 0) && (m.fSize == 0) && (m.fLen == 0) && (m.fSums.length == 0)
theorem impl_isZeroMan_eq (u : Nat) (m : Manifest) : impl_isZeroMan u m = some (M.zeroMan m) := by
  unfold impl_isZeroMan M.zeroMan
  rw [show ((m.fSums.length : Int) == 0) = (m.fSums.length == 0) from len_beq _ 0]
  cases m.fGen == 0 <;> cases m.fSize == 0 <;> cases m.fLen == 0 <;> rfl
theorem sameMan_zero (m : Manifest) : M.sameMan m ⟨0, 0, 0, []⟩ = M.zeroMan m := by
  unfold M.sameMan M.zeroMan M.same
  cases h : m.fSums with
  | nil => simp [M.all2]
  | cons s l => simp
def M.msgOk (m : Msg) : Bool :=
  if m.fKind = 1 then (m.fGen == 0) && (m.fMan.fGen != 0) && M.manOk m.fMan && ((m.fWant == 0) && (m.fDone == 0) && (m.fI == 0) && (m.fB.length == 0))
  else if m.fKind = 2 then M.within m.fGen 0 1000000 && M.zeroMan m.fMan && M.setOk m.fWant && M.setOk m.fDone && (m.fI == 0) && (m.fB.length == 0)
  else if m.fKind = 3 then M.within m.fGen 1 1000000 && M.zeroMan m.fMan && (m.fWant == 0) && (m.fDone == 0) && M.within m.fI 0 39 && M.within m.fB.length 1 6
  else if m.fKind = 4 then M.within m.fGen 0 1000000 && M.zeroMan m.fMan && ((m.fWant == 0) && (m.fDone == 0) && (m.fI == 0) && (m.fB.length == 0))
  else false
theorem impl_MsgOk_eq {u : Nat} (hu : 1099511627776 ≤ u) {m : Msg} (hs : m.fMan.fSums.length ≤ 1048576) : impl_MsgOk u m = some (M.msgOk m) := by
  unfold impl_MsgOk M.msgOk impl_Msg__isBare impl_isGen impl_isPlace
  simp only [impl_ManOk_eq hu m.fMan (show m.fMan.fSums.length ≤ 1073741824 by omega), impl_isZeroMan_eq, impl_SetOk_eq, impl_within_eq, Option.bind_some]
  rw [show ((m.fB.length : Int) == 0) = (m.fB.length == 0) from len_beq _ 0]
  generalize M.manOk m.fMan = x1
  generalize M.zeroMan m.fMan = x2
  generalize M.setOk m.fWant = x3
  generalize M.setOk m.fDone = x4
  generalize M.within m.fGen 0 1000000 = x5
  generalize M.within m.fGen 1 1000000 = x6
  generalize M.within m.fI 0 39 = x7
  generalize M.within m.fB.length 1 6 = x8
  generalize (m.fB.length == 0) = x9
  generalize (m.fMan.fGen != 0) = x10
  generalize (m.fGen == 0) = x11
  generalize (m.fWant == 0) = x12
  generalize (m.fDone == 0) = x13
  generalize (m.fI == 0) = x14
  by_cases h1 : m.fKind = 1
  · simp only [h1, beq_self_eq_true, cond_true, if_true]
    cases x1 <;> cases x10 <;> cases x11 <;> cases x12 <;> cases x13 <;> cases x14 <;> cases x9 <;> rfl
  · have e1 : (m.fKind == 1) = false := by simpa using h1
    by_cases h2 : m.fKind = 2
    · simp only [h2, e1, beq_self_eq_true, cond_true, if_true]
      cases x5 <;> cases x2 <;> cases x3 <;> cases x4 <;> cases x14 <;> cases x9 <;> rfl
    · have e2 : (m.fKind == 2) = false := by simpa using h2
      by_cases h3 : m.fKind = 3
      · simp only [h3, beq_self_eq_true, cond_true, if_true]
        cases x6 <;> cases x2 <;> cases x12 <;> cases x13 <;> cases x7 <;> cases x8 <;> rfl
      · have e3 : (m.fKind == 3) = false := by simpa using h3
        by_cases h4 : m.fKind = 4
        · simp only [h4, beq_self_eq_true, cond_true, if_true]
          cases x5 <;> cases x2 <;> cases x12 <;> cases x13 <;> cases x14 <;> cases x9 <;> rfl
        · have e4 : (m.fKind == 4) = false := by simpa using h4
          simp only [e1, e2, e3, e4, h1, h2, h3, h4, cond_false, if_false]
theorem spec_MsgOk_eq {u : Nat} (hu : 1099511627776 ≤ u) {m : Msg} (hs : m.fMan.fSums.length ≤ 1048576) : spec_MsgOk u m = some (M.msgOk m) := by
  unfold spec_MsgOk M.msgOk spec_MsgOk_j1
  simp only [spec_SameMan_eq hu hs, sameMan_zero, spec_ManOk_eq hu m.fMan (show m.fMan.fSums.length ≤ 1073741824 by omega), spec_SetOk_eq, spec_l1In_eq, Option.bind_some]
  rw [show ((m.fB.length : Int) == 0) = (m.fB.length == 0) from len_beq _ 0]
  generalize M.manOk m.fMan = x1
  generalize M.zeroMan m.fMan = x2
  generalize M.setOk m.fWant = x3
  generalize M.setOk m.fDone = x4
  generalize M.within m.fGen 0 1000000 = x5
  generalize M.within m.fGen 1 1000000 = x6
  generalize M.within m.fI 0 39 = x7
  generalize M.within m.fB.length 1 6 = x8
  generalize (m.fB.length == 0) = x9
  generalize (m.fMan.fGen != 0) = x10
  generalize (m.fGen == 0) = x11
  generalize (m.fWant == 0) = x12
  generalize (m.fDone == 0) = x13
  generalize (m.fI == 0) = x14
  by_cases h1 : m.fKind = 1
  · simp only [h1, beq_self_eq_true, cond_true, if_true]
    cases x1 <;> cases x10 <;> cases x11 <;> cases x12 <;> cases x13 <;> cases x14 <;> cases x9 <;> rfl
  · have e1 : (m.fKind == 1) = false := by simpa using h1
    by_cases h2 : m.fKind = 2
    · simp only [h2, e1, beq_self_eq_true, cond_true, if_true]
      cases x5 <;> cases x2 <;> cases x3 <;> cases x4 <;> cases x14 <;> cases x9 <;> cases x12 <;> cases x13 <;> rfl
    · have e2 : (m.fKind == 2) = false := by simpa using h2
      by_cases h3 : m.fKind = 3
      · simp only [h3, beq_self_eq_true, cond_true, if_true]
        cases x6 <;> cases x2 <;> cases x12 <;> cases x13 <;> cases x7 <;> cases x8 <;> cases x14 <;> cases x9 <;> rfl
      · have e3 : (m.fKind == 3) = false := by simpa using h3
        by_cases h4 : m.fKind = 4
        · simp only [h4, beq_self_eq_true, cond_true, if_true]
          cases x5 <;> cases x2 <;> cases x12 <;> cases x13 <;> cases x14 <;> cases x9 <;> rfl
        · have e4 : (m.fKind == 4) = false := by simpa using h4
          simp only [e1, e2, e3, e4, h1, h2, h3, h4, cond_false, if_false]
          cases x12 <;> cases x13 <;> cases x14 <;> rfl
def M.noMan : Manifest × Int × Bool := (⟨0, 0, 0, []⟩, 0, false)
def M.getSums : Nat → List Int → Int → List Sum → Option (List Sum × Int)
  | 0, _, a, acc => some (acc, a)
  | n + 1, b, a, acc => match M.rdAt 8 b a with
    | some (v, e) => if (M.bytesOf v).2 then M.getSums n b e (acc ++ [M.sumOf (M.bytesOf v).1]) else none
    | none => none
def M.manRes (g s l : Int) : Option (List Sum × Int) → Manifest × Int × Bool
  | some (ss, e) => if M.manOk ⟨g, s, l, ss⟩ then (⟨g, s, l, ss⟩, e, true) else M.noMan
  | none => M.noMan
theorem impl_GetMan_w {u : Nat} (hu : 1099511627776 ≤ u) {b : List Int} (hb : M.isBytes b) (hl : b.length ≤ 1048576) (g s l : Int) (n : Nat) (hn : n ≤ 1000) : ∀ (m i k : Nat) (a : Int) (acc : List Sum), i + m = n → m < k → acc.length + m ≤ 1000 → impl_GetMan_l2 u k b a n i g s l acc = some (M.manRes g s l (M.getSums m b a acc)) := by
  intro m
  induction m with
  | zero =>
    intro i k a acc h1 h2 h3
    obtain ⟨k, rfl⟩ : ∃ j, k = j + 1 := ⟨k - 1, by omega⟩
    have e : ¬ ((i : Int) < (n : Int)) := by omega
    unfold impl_GetMan_l2 impl_GetMan_j1
    simp only [e, decide_false, cond_false]
    rw [impl_ManOk_eq hu _ (show acc.length ≤ 1073741824 by omega)]
    simp only [Option.bind_some, M.getSums, M.manRes, M.noMan]
    cases M.manOk ⟨g, s, l, acc⟩ <;> rfl
  | succ m ih =>
    intro i k a acc h1 h2 h3
    obtain ⟨k, rfl⟩ : ∃ j, k = j + 1 := ⟨k - 1, by omega⟩
    have e : (i : Int) < (n : Int) := by omega
    obtain ⟨r, g1, g2⟩ := readVar_eq hu hb hl a 8 (by omega) (by omega)
    rw [show ((8 : Nat) : Int) = 8 by rfl] at g1
    unfold impl_GetMan_l2 impl_GetMan_j3
    simp only [e, decide_true, cond_true, g1, Option.bind_some, impl_BytesOf_eq hu, M.getSums]
    cases hr : M.rdAt 8 b a with
    | none => rw [hr] at g2; rw [g2]; rfl
    | some q =>
      obtain ⟨v, e'⟩ := q
      rw [hr] at g2
      rw [g2]
      have hv := bytesOf_bytes v
      dsimp only
      cases h : (M.bytesOf v).2 with
      | false => rfl
      | true =>
        simp only [Bool.not_true, cond_false, if_true]
        rw [impl_SumOf_eq hu hv.1 (by omega)]
        simp only [Option.bind_some]
        rw [chk_dec (by simp; omega), bAdd_succ (by omega)]
        exact ih (i + 1) k e' _ (by omega) (by omega) (by simp; omega)
theorem sumsFit_ok (size len : Int) : ∀ (l : List Sum) (i : Nat), M.sumsFit size len l i = true → ∀ s ∈ l, (M.bytesOf s.fS).2 = true := by
  intro l
  induction l with
  | nil => intro i _ s hs; simp at hs
  | cons x l ih =>
    intro i h s hs
    simp only [M.sumsFit, M.sumFit, Bool.and_eq_true] at h
    rcases List.mem_cons.1 hs with rfl | hs
    · exact h.1.1.1
    · exact ih (i + 1) h.2 s hs
theorem manOk_bad {g s l : Int} {ss : List Sum} (h : ∃ x ∈ ss, (M.bytesOf x.fS).2 = false) : M.manOk ⟨g, s, l, ss⟩ = false := by
  obtain ⟨x, hx, hb⟩ := h
  cases hm : M.manOk ⟨g, s, l, ss⟩ with
  | false => rfl
  | true =>
    unfold M.manOk at hm
    dsimp only at hm
    split at hm
    · simp only [Bool.and_eq_true, beq_iff_eq, List.length_eq_zero_iff] at hm
      rw [hm.2] at hx; simp at hx
    · simp only [Bool.and_eq_true] at hm
      have := sumsFit_ok _ _ _ _ hm.2 x hx
      rw [this] at hb; cases hb
theorem spec_GetMan_bad {u : Nat} (hu : 1099511627776 ≤ u) {b : List Int} (hb : M.isBytes b) (hl : b.length ≤ 1048576) (r1 r2 r3 : Int × Int × Bool) : ∀ (m i k : Nat) (a : Int) (acc : List Sum), i + m = (M.blocks r2.1 r3.1).toNat ∨ (m = 0 ∧ (M.blocks r2.1 r3.1).toNat ≤ i) → m < k → acc.length + m ≤ 1000 → 0 ≤ a → (∃ x ∈ acc, (M.bytesOf x.fS).2 = false) → spec_GetMan_l3 u k b r1 r2 r3 a i acc = some M.noMan := by
  have hk := blocks_range r2.1 r3.1
  intro m
  induction m with
  | zero =>
    intro i k a acc h1 h2 h3 h4 h5
    obtain ⟨k, rfl⟩ : ∃ j, k = j + 1 := ⟨k - 1, by omega⟩
    have e : ¬ ((i : Int) < M.blocks r2.1 r3.1) := by omega
    unfold spec_GetMan_l3 spec_GetMan_j4 spec_GetMan_j2
    simp only [spec_Blocks_eq, Option.bind_some, e, decide_false, cond_false]
    rw [spec_ManOk_eq hu _ (show acc.length ≤ 1073741824 by omega), manOk_bad h5]; rfl
  | succ m ih =>
    intro i k a acc h1 h2 h3 h4 h5
    obtain ⟨k, rfl⟩ : ∃ j, k = j + 1 := ⟨k - 1, by omega⟩
    have e : (i : Int) < M.blocks r2.1 r3.1 := by omega
    obtain ⟨r, g1, g2⟩ := l6GetSum_eq hu hb hl h4
    unfold spec_GetMan_l3 spec_GetMan_j4 spec_GetMan_j2
    simp only [spec_Blocks_eq, Option.bind_some, e, decide_true, cond_true, g1, spec_BytesOf_eq hu]
    by_cases hg : r1.1 > 0
    · simp only [hg, decide_true, cond_true]
      cases hr : M.rdAt 8 b a with
      | none => rw [hr] at g2; rw [g2]; rfl
      | some q =>
        obtain ⟨v, e'⟩ := q
        rw [hr] at g2
        rw [g2]
        have hv := bytesOf_bytes v
        have hp := rdAt_put hb hr (by omega)
        dsimp only
        simp only [Bool.not_true, cond_false]
        rw [spec_SumOf_eq hu hv.1 (by omega)]
        simp only [Option.bind_some]
        rw [chk_dec (by simp; omega), bAdd_succ (by omega)]
        obtain ⟨x, hx, hbx⟩ := h5
        exact ih (i + 1) k e' _ (by omega) (by omega) (by simp; omega) (by omega) ⟨x, by simp [hx], hbx⟩
    · simp only [hg, decide_false, cond_false]
      rw [spec_ManOk_eq hu _ (show acc.length ≤ 1073741824 by omega), manOk_bad h5]; rfl
theorem spec_GetMan_w {u : Nat} (hu : 1099511627776 ≤ u) {b : List Int} (hb : M.isBytes b) (hl : b.length ≤ 1048576) {r1 r2 r3 : Int × Int × Bool} (hg : 0 < r1.1) : ∀ (m i k : Nat) (a : Int) (acc : List Sum), i + m = (M.blocks r2.1 r3.1).toNat → m < k → acc.length + m ≤ 1000 → 0 ≤ a → spec_GetMan_l3 u k b r1 r2 r3 a i acc = some (M.manRes r1.1 r2.1 r3.1 (M.getSums m b a acc)) := by
  have hk := blocks_range r2.1 r3.1
  intro m
  induction m with
  | zero =>
    intro i k a acc h1 h2 h3 h4
    obtain ⟨k, rfl⟩ : ∃ j, k = j + 1 := ⟨k - 1, by omega⟩
    have e : ¬ ((i : Int) < M.blocks r2.1 r3.1) := by omega
    unfold spec_GetMan_l3 spec_GetMan_j4 spec_GetMan_j2
    simp only [spec_Blocks_eq, Option.bind_some, e, decide_false, cond_false]
    rw [spec_ManOk_eq hu _ (show acc.length ≤ 1073741824 by omega)]
    simp only [Option.bind_some, M.getSums, M.manRes, M.noMan]
    cases M.manOk ⟨r1.1, r2.1, r3.1, acc⟩ <;> rfl
  | succ m ih =>
    intro i k a acc h1 h2 h3 h4
    obtain ⟨k, rfl⟩ : ∃ j, k = j + 1 := ⟨k - 1, by omega⟩
    have e : (i : Int) < M.blocks r2.1 r3.1 := by omega
    have hg' : r1.1 > 0 := hg
    obtain ⟨r, g1, g2⟩ := l6GetSum_eq hu hb hl h4
    unfold spec_GetMan_l3 spec_GetMan_j4
    simp only [spec_Blocks_eq, Option.bind_some, e, hg', decide_true, cond_true, g1, spec_BytesOf_eq hu, M.getSums]
    cases hr : M.rdAt 8 b a with
    | none => rw [hr] at g2; rw [g2]; rfl
    | some q =>
      obtain ⟨v, e'⟩ := q
      rw [hr] at g2
      rw [g2]
      have hv := bytesOf_bytes v
      have hp := rdAt_put hb hr (by omega)
      dsimp only
      simp only [Bool.not_true, cond_false]
      rw [spec_SumOf_eq hu hv.1 (by omega)]
      simp only [Option.bind_some]
      rw [chk_dec (by simp; omega), bAdd_succ (by omega)]
      simp only [Option.bind_some]
      cases h : (M.bytesOf v).2 with
      | false =>
        simp only [Bool.false_eq_true, if_false]
        exact spec_GetMan_bad hu hb hl r1 r2 r3 m (i + 1) k e' _ (by omega) (by omega) (by simp; omega) (by omega) ⟨_, List.mem_append_right _ (List.mem_singleton.2 rfl), h⟩
      | true =>
        simp only [if_true]
        have hs : M.sumOf (M.bytesOf v).1 = ⟨(M.sumOf (M.bytesOf v).1).fW, v⟩ := by
          have := sumOf_bytesOf (s := v) (b := (M.bytesOf v).1) (by rw [← h])
          rw [this]
        rw [← hs]
        exact ih (i + 1) k e' _ (by omega) (by omega) (by simp; omega) (by omega)
theorem spec_GetMan_zero {u : Nat} (hu : 1099511627776 ≤ u) (b : List Int) {r1 r2 r3 : Int × Int × Bool} (hg : r1.1 = 0) (k : Nat) (a : Int) : spec_GetMan_l3 u (k + 1) b r1 r2 r3 a 0 [] = some (M.manRes r1.1 r2.1 r3.1 (some ([], a))) := by
  have hg' : ¬ r1.1 > 0 := by omega
  unfold spec_GetMan_l3 spec_GetMan_j4 spec_GetMan_j2
  simp only [spec_Blocks_eq, Option.bind_some, hg', decide_false]
  have : ∀ c : Bool, (bif c then (spec_ManOk u ⟨r1.1, r2.1, r3.1, []⟩).bind fun r22 => bif !r22 then some ((⟨0, 0, 0, []⟩, 0, false) : Manifest × Int × Bool) else some (⟨r1.1, r2.1, r3.1, []⟩, a, true) else (spec_ManOk u ⟨r1.1, r2.1, r3.1, []⟩).bind fun r22 => bif !r22 then some ((⟨0, 0, 0, []⟩, 0, false) : Manifest × Int × Bool) else some (⟨r1.1, r2.1, r3.1, []⟩, a, true)) = some (M.manRes r1.1 r2.1 r3.1 (some ([], a))) := by
    intro c
    rw [spec_ManOk_eq hu _ (show ([] : List Sum).length ≤ 1073741824 by simp)]
    simp only [Option.bind_some, M.manRes, M.noMan]
    cases c <;> cases M.manOk ⟨r1.1, r2.1, r3.1, []⟩ <;> rfl
  exact this _
def M.getVars : Nat → List Int → Int → List Int → List Int × Int × Bool
  | 0, _, a, acc => (acc, a, true)
  | n + 1, b, a, acc => if (M.getVar b a).2.2 then M.getVars n b (M.getVar b a).2.1 (acc ++ [(M.getVar b a).1]) else ([], 0, false)
theorem readVars_w {u : Nat} (hu : 1099511627776 ≤ u) {b : List Int} (hb : M.isBytes b) (hl : b.length ≤ 1048576) (n : Nat) (hn : n ≤ 1000) : ∀ (m i k : Nat) (a : Int) (acc : List Int), i + m = n → m < k → acc.length + m ≤ 1000 → impl_readVars_l2 u k b a acc n i = some (M.getVars m b a acc) := by
  intro m
  induction m with
  | zero =>
    intro i k a acc h1 h2 h3
    obtain ⟨k, rfl⟩ : ∃ j, k = j + 1 := ⟨k - 1, by omega⟩
    have e : ¬ ((i : Int) < (n : Int)) := by omega
    unfold impl_readVars_l2 impl_readVars_j1
    simp only [e, decide_false, cond_false]; rfl
  | succ m ih =>
    intro i k a acc h1 h2 h3
    obtain ⟨k, rfl⟩ : ∃ j, k = j + 1 := ⟨k - 1, by omega⟩
    have e : (i : Int) < (n : Int) := by omega
    unfold impl_readVars_l2
    simp only [e, decide_true, cond_true, impl_GetVar_eq hu hb hl, Option.bind_some, M.getVars]
    cases h : (M.getVar b a).2.2 with
    | false => rfl
    | true =>
      simp only [Bool.not_true, cond_false, if_true]
      rw [chk_dec (by simp; omega), bAdd_succ (by omega)]
      exact ih (i + 1) k _ _ (by omega) (by omega) (by simp; omega)
theorem readVars_eq {u : Nat} (hu : 1099511627776 ≤ u) {b : List Int} (hb : M.isBytes b) (hl : b.length ≤ 1048576) (a : Int) (n : Nat) (hn : n ≤ 1000) : impl_readVars u b a n = some (M.getVars n b a []) := by
  unfold impl_readVars
  exact readVars_w hu hb hl n hn n 0 u a [] (by omega) (by omega) (by simp; omega)
def M.getMan (b : List Int) (a : Int) : Manifest × Int × Bool :=
  let g1 := M.getVar b a
  let g2 := M.getVar b g1.2.1
  let g3 := M.getVar b g2.2.1
  if g1.2.2 && g2.2.2 && g3.2.2 then M.manRes g1.1 g2.1 g3.1 (M.getSums (M.blocks g2.1 g3.1).toNat b g3.2.1 []) else M.noMan
theorem impl_GetMan_eq {u : Nat} (hu : 1099511627776 ≤ u) {b : List Int} (hb : M.isBytes b) (hl : b.length ≤ 1048576) (a : Int) : impl_GetMan u b a = some (M.getMan b a) := by
  unfold impl_GetMan M.getMan
  rw [show (3 : Int) = ((3 : Nat) : Int) by rfl, readVars_eq hu hb hl a 3 (by omega)]
  simp only [Option.bind_some, M.getVars]
  cases h1 : (M.getVar b a).2.2 with
  | false => rfl
  | true =>
    cases h2 : (M.getVar b (M.getVar b a).2.1).2.2 with
    | false => rfl
    | true =>
      cases h3 : (M.getVar b (M.getVar b (M.getVar b a).2.1).2.1).2.2 with
      | false => rfl
      | true =>
        have hk := blocks_range (M.getVar b (M.getVar b a).2.1).1 (M.getVar b (M.getVar b (M.getVar b a).2.1).2.1).1
        simp only [if_true, Bool.not_true, cond_false, Bool.and_self, List.nil_append, List.append_assoc, List.cons_append]
        rw [show (0 : Int) = ((0 : Nat) : Int) by rfl, show (1 : Int) = ((1 : Nat) : Int) by rfl, show (2 : Int) = ((2 : Nat) : Int) by rfl]
        simp only [idx_nat, List.getElem?_cons_zero, List.getElem?_cons_succ, Option.bind_some, impl_Blocks_eq]
        generalize hn : (M.blocks (M.getVar b (M.getVar b a).2.1).1 (M.getVar b (M.getVar b (M.getVar b a).2.1).2.1).1) = n at hk
        obtain ⟨n, rfl⟩ := Int.eq_ofNat_of_zero_le hk.1
        rw [Int.toNat_natCast]
        exact impl_GetMan_w hu hb hl _ _ _ n (by omega) n 0 u _ [] (by omega) (by omega) (by simp; omega)
theorem manRes_zero {s l : Int} {ss : List Sum} {e : Int} (h : M.blocks s l ≠ 0) : M.manRes 0 s l (some (ss, e)) = M.noMan := by
  unfold M.manRes M.manOk
  dsimp only
  have hz : ¬ (s = 0) := by
    intro h0; subst h0
    apply h
    unfold M.blocks M.sizeOk M.within
    simp
  simp [hz]
theorem spec_GetMan_eq {u : Nat} (hu : 1099511627776 ≤ u) {b : List Int} (hb : M.isBytes b) (hl : b.length ≤ 1048576) (a : Int) : spec_GetMan u b a = some (M.getMan b a) := by
  unfold spec_GetMan M.getMan spec_GetMan_j1
  simp only [spec_GetVar_eq hu hb hl, Option.bind_some]
  rcases getVar_cases b a with ⟨v1, e1, h1⟩ | h1
  · rw [h1]
    rcases getVar_cases b e1 with ⟨v2, e2, h2⟩ | h2
    · dsimp only
      rw [h2]
      rcases getVar_cases b e2 with ⟨v3, e3, h3⟩ | h3
      · dsimp only
        rw [h3]
        have p1 := getVar_put hb h1
        have p3 := getVar_put hb h3
        have hk := blocks_range v2 v3
        simp only [Bool.not_true, cond_false, Bool.and_self, if_true]
        by_cases hg : 0 < v1
        · exact spec_GetMan_w hu hb hl (r1 := (v1, e1, true)) (r2 := (v2, e2, true)) (r3 := (v3, e3, true)) hg (M.blocks v2 v3).toNat 0 u e3 [] (by simp) (by omega) (by simp; omega) (by omega)
        · have h0 : v1 = 0 := by omega
          subst h0
          obtain ⟨u', rfl⟩ : ∃ j, u = j + 1 := ⟨u - 1, by omega⟩
          rw [spec_GetMan_zero (r1 := (0, e1, true)) (r2 := (v2, e2, true)) (r3 := (v3, e3, true)) hu b rfl u' e3]
          dsimp only
          by_cases hn : M.blocks v2 v3 = 0
          · rw [hn]; rfl
          · rw [manRes_zero hn]
            cases hs : M.getSums (M.blocks v2 v3).toNat b e3 [] with
            | none => rfl
            | some q => obtain ⟨ss, e⟩ := q; rw [manRes_zero hn]
      · dsimp only
        rw [h3]; rfl
    · dsimp only
      rw [h2]; simp
      rfl
  · rw [h1]; simp
    rfl
theorem toList_num (xs : List Int) : (strOfNums xs).toList = xs.map fun n => UInt8.ofNat n.toNat := by
  rw [ByteArray.toList_eq, strOfNums_data]
theorem u8_inj {a b : Int} (h1 : 0 ≤ a) (h2 : a ≤ 255) (h3 : 0 ≤ b) (h4 : b ≤ 255) (h : UInt8.ofNat a.toNat = UInt8.ofNat b.toNat) : a = b := by
  have := congrArg UInt8.toNat h
  simp only [UInt8.toNat_ofNat'] at this
  omega
theorem sameBytes_eq {a b : List Int} (ha : M.isBytes a) (hb : M.isBytes b) : M.sameBytes a b = decide (a = b) := by
  unfold M.sameBytes
  rw [Bool.eq_iff_iff, beq_iff_eq, decide_eq_true_eq, toList_num, toList_num]
  constructor
  · intro h
    revert b
    induction a with
    | nil => intro b _ h; cases b with
      | nil => rfl
      | cons y b => simp at h
    | cons x a ih =>
      intro b hb h
      cases b with
      | nil => simp at h
      | cons y b =>
        simp only [List.map_cons, List.cons.injEq] at h
        have hx := ha x (by simp)
        have hy := hb y (by simp)
        rw [u8_inj hx.1 hx.2 hy.1 hy.2 h.1, ih (fun z hz => ha z (by simp [hz])) (fun z hz => hb z (by simp [hz])) h.2]
  · intro h; rw [h]
def M.getPart (b : List Int) (a : Int) : List Int × Int × Bool :=
  let g := M.getVar b a
  if g.2.2 && decide (g.1 ≤ 6) && decide (g.1 ≤ b.length - g.2.1) then (M.win b g.2.1.toNat g.1.toNat, g.2.1 + g.1, true) else ([], 0, false)
theorem impl_GetPart_eq {u : Nat} (hu : 1099511627776 ≤ u) {b : List Int} (hb : M.isBytes b) (hl : b.length ≤ 1048576) (a : Int) : impl_GetPart u b a 6 = some (M.getPart b a) := by
  unfold impl_GetPart M.getPart impl_GetPart_j1
  simp only [impl_GetVar_eq hu hb hl, Option.bind_some]
  rcases getVar_cases b a with ⟨v, e, h⟩ | h
  · rw [h]
    have p := getVar_put hb h
    dsimp only
    by_cases h6 : v ≤ 6
    · have h7 : ¬ v > 6 := by omega
      simp only [h6, h7, decide_true, decide_false, Bool.not_true, cond_false, Bool.true_and]
      obtain ⟨v, rfl⟩ := Int.eq_ofNat_of_zero_le p.2.2.2.1
      obtain ⟨e, rfl⟩ := Int.eq_ofNat_of_zero_le (show 0 ≤ e by omega)
      by_cases hv : (v : Int) ≤ (b.length : Int) - (e : Int)
      · rw [impl_Slice_eq u (show e + v ≤ b.length by omega) (by omega)]
        simp only [hv, decide_true, if_true, Option.bind_some, Bool.not_true, cond_false, Int.toNat_natCast]
        rw [bAdd_i64 (by omega) (by omega)]
      · simp only [hv, decide_false, Bool.false_eq_true, if_false]
        unfold impl_Slice impl_Slice_j1
        rw [bSub_i64 (by omega) (by omega), impl_within_eq, impl_within_eq, show M.within (e : Int) 0 (b.length : Int) = true by simp [M.within]; omega, show M.within (v : Int) 0 ((b.length : Int) - (e : Int)) = false by simp [M.within]; omega]
        rfl
    · have h7 : v > 6 := by omega
      simp [h6, h7]
  · rw [h]; simp
theorem spec_GetPart_eq {u : Nat} (hu : 1099511627776 ≤ u) {b : List Int} (hb : M.isBytes b) (hl : b.length ≤ 1048576) (a : Int) : spec_GetPart u b a 6 = some (M.getPart b a) := by
  unfold spec_GetPart M.getPart spec_GetPart_j1
  simp only [spec_GetVar_eq hu hb hl, Option.bind_some]
  rcases getVar_cases b a with ⟨v, e, h⟩ | h
  · rw [h]
    have p := getVar_put hb h
    dsimp only
    by_cases h6 : v ≤ 6
    · have h7 : ¬ v > 6 := by omega
      simp only [h6, h7, decide_true, decide_false, Bool.not_true, cond_false, Bool.true_and]
      obtain ⟨v, rfl⟩ := Int.eq_ofNat_of_zero_le p.2.2.2.1
      obtain ⟨e, rfl⟩ := Int.eq_ofNat_of_zero_le (show 0 ≤ e by omega)
      rw [bSub_i64 (by omega) (by omega)]
      by_cases hv : (v : Int) ≤ (b.length : Int) - (e : Int)
      · have hv' : ¬ ((v : Int) > (b.length : Int) - (e : Int)) := by omega
        simp only [hv, hv', decide_true, decide_false, cond_false, if_true]
        rw [bAdd_nat (by omega), sliceOK_nat (by omega) (by omega), chk_dec (by simp; omega)]
        simp only [Option.bind_some, Int.toNat_natCast, List.nil_append]
        rw [show ((e + v : Nat) : Int) = (e : Int) + (v : Int) by omega]; rfl
      · have hv' : (v : Int) > (b.length : Int) - (e : Int) := by omega
        simp [hv, hv']
    · have h7 : v > 6 := by omega
      simp [h6, h7]
  · rw [h]; simp
theorem getPart_put {b p : List Int} {a e : Int} (hb : M.isBytes b) (h : M.getPart b a = (p, e, true)) : 0 ≤ a ∧ a < e ∧ e ≤ b.length ∧ M.isBytes p ∧ p.length ≤ 6 ∧ b.take e.toNat = (b.take a.toNat ++ M.var 9 p.length) ++ p := by
  unfold M.getPart at h
  rcases getVar_cases b a with ⟨v, e', g⟩ | g
  · rw [g] at h
    have q := getVar_put hb g
    dsimp only at h
    split at h
    · rename_i hc
      simp only [Bool.true_and, Bool.and_eq_true, decide_eq_true_eq] at hc
      simp only [Prod.mk.injEq, and_true] at h
      obtain ⟨rfl, rfl⟩ := h
      obtain ⟨v, rfl⟩ := Int.eq_ofNat_of_zero_le q.2.2.2.1
      obtain ⟨e', rfl⟩ := Int.eq_ofNat_of_zero_le (show 0 ≤ e' by omega)
      simp only [Int.toNat_natCast] at q ⊢
      have hw : (M.win b e' v).length = v := by unfold M.win; rw [List.length_drop, List.length_take]; omega
      refine ⟨q.1, by omega, by omega, isBytes_win hb _ _, by omega, ?_⟩
      rw [show ((e' : Int) + (v : Int)).toNat = e' + v by omega, take_add_drop, q.2.2.2.2.2, hw, win_eq]
    · cases h
  · rw [g] at h; cases h
def M.putSet (c : List Int) (s : Int) : List Int := M.putVar (M.putVar c (bAnd .i64 s 1048575)) (bShr .i64 s 20)
def M.putBody (m : Msg) : List Int :=
  if m.fKind = 1 then M.putMan (M.putVar [] m.fKind) m.fMan
  else if m.fKind = 2 then M.putSet (M.putSet (M.putVar (M.putVar [] m.fKind) m.fGen) m.fWant) m.fDone
  else if m.fKind = 3 then M.putVar (M.putVar (M.putVar (M.putVar [] m.fKind) m.fGen) m.fI) m.fB.length ++ m.fB
  else if m.fKind = 4 then M.putVar (M.putVar [] m.fKind) m.fGen
  else M.putVar [] m.fKind
def M.putMsg (m : Msg) : List Int := if M.msgOk m then M.putVar (M.putBody m) (M.weakOf (M.putBody m)) else []
structure M.MsgWf (m : Msg) : Prop where
  sums : m.fMan.fSums.length ≤ 1048576
  wf : M.manWf m.fMan
  b : M.isBytes m.fB
  len : m.fB.length ≤ 1048576
theorem putVar_bytes {b : List Int} (h : M.isBytes b) (n : Int) : M.isBytes (M.putVar b n) := by
  unfold M.putVar
  split
  · exact isBytes_app h (var_bytes 9 n)
  · exact h
theorem putSums_bytes : ∀ (l : List Sum) (b : List Int), M.isBytes b → M.isBytes (M.putSums b l) := by
  intro l
  induction l with
  | nil => intro b h; exact h
  | cons s l ih => intro b h; exact ih _ (isBytes_app h (var_bytes 9 s.fS))
theorem putMan_bytes {b : List Int} (h : M.isBytes b) (m : Manifest) : M.isBytes (M.putMan b m) := by
  unfold M.putMan
  split
  · exact putSums_bytes _ _ (putVar_bytes (putVar_bytes (putVar_bytes h _) _) _)
  · exact h
theorem putMan_length (b : List Int) (m : Manifest) : (M.putMan b m).length ≤ b.length + 430 := by
  unfold M.putMan
  split
  · rename_i h
    have h0 := manOk_len h
    have h1 := putVar_length b m.fGen
    have h2 := putVar_length (M.putVar b m.fGen) m.fSize
    have h3 := putVar_length (M.putVar (M.putVar b m.fGen) m.fSize) m.fLen
    have h4 := putSums_length m.fSums (M.putVar (M.putVar (M.putVar b m.fGen) m.fSize) m.fLen)
    omega
  · omega
theorem nil_bytes : M.isBytes [] := fun x hx => by simp at hx
theorem putBody_ok {m : Msg} (hm : M.MsgWf m) : M.isBytes (M.putBody m) ∧ (M.putBody m).length ≤ 1049600 := by
  have k := putVar_length [] m.fKind
  have kb := putVar_bytes nil_bytes m.fKind
  have g := putVar_length (M.putVar [] m.fKind) m.fGen
  have gb := putVar_bytes kb m.fGen
  simp only [List.length_nil] at k
  unfold M.putBody M.putSet
  split
  · exact ⟨putMan_bytes kb _, by have := putMan_length (M.putVar [] m.fKind) m.fMan; omega⟩
  · split
    · refine ⟨putVar_bytes (putVar_bytes (putVar_bytes (putVar_bytes gb _) _) _) _, ?_⟩
      have h1 := putVar_length (M.putVar (M.putVar [] m.fKind) m.fGen) (bAnd .i64 m.fWant 1048575)
      have h2 := putVar_length (M.putVar (M.putVar (M.putVar [] m.fKind) m.fGen) (bAnd .i64 m.fWant 1048575)) (bShr .i64 m.fWant 20)
      have h3 := putVar_length (M.putVar (M.putVar (M.putVar (M.putVar [] m.fKind) m.fGen) (bAnd .i64 m.fWant 1048575)) (bShr .i64 m.fWant 20)) (bAnd .i64 m.fDone 1048575)
      have h4 := putVar_length (M.putVar (M.putVar (M.putVar (M.putVar (M.putVar [] m.fKind) m.fGen) (bAnd .i64 m.fWant 1048575)) (bShr .i64 m.fWant 20)) (bAnd .i64 m.fDone 1048575)) (bShr .i64 m.fDone 20)
      omega
    · split
      · refine ⟨isBytes_app (putVar_bytes (putVar_bytes gb _) _) hm.b, ?_⟩
        have h1 := putVar_length (M.putVar (M.putVar [] m.fKind) m.fGen) m.fI
        have h2 := putVar_length (M.putVar (M.putVar (M.putVar [] m.fKind) m.fGen) m.fI) m.fB.length
        have h3 := hm.len
        rw [List.length_append]; omega
      · split
        · exact ⟨gb, by omega⟩
        · exact ⟨kb, by omega⟩
theorem impl_PutMsg_eq {u : Nat} (hu : 1099511627776 ≤ u) {m : Msg} (hm : M.MsgWf m) : impl_PutMsg u m = some (M.putMsg m) := by
  have k := putVar_length [] m.fKind
  have g := putVar_length (M.putVar [] m.fKind) m.fGen
  simp only [List.length_nil] at k
  have hl := hm.len
  obtain ⟨hb, hbl⟩ := putBody_ok hm
  unfold impl_PutMsg M.putMsg
  rw [impl_MsgOk_eq hu hm.sums]
  simp only [Option.bind_some]
  cases hok : M.msgOk m with
  | false => rfl
  | true =>
    simp only [Bool.not_true, cond_false, if_true]
    rw [impl_PutVar_eq hu (by simp)]
    simp only [Option.bind_some]
    have tail : impl_PutMsg_j1 u (M.putBody m) = some (M.putVar (M.putBody m) (M.weakOf (M.putBody m))) := by
      unfold impl_PutMsg_j1
      rw [impl_WeakOf_eq hu hb (by omega)]
      simp only [Option.bind_some]
      rw [impl_PutVar_eq hu (by omega)]; rfl
    rw [← tail]
    clear tail hbl hb
    unfold M.putBody M.putSet
    by_cases h1 : m.fKind = 1
    · simp only [h1, beq_self_eq_true, cond_true, if_true]
      rw [h1] at k
      rw [impl_PutMan_eq hu (by omega) (by have := hm.sums; omega) hm.wf]; rfl
    · have e1 : (m.fKind == 1) = false := by simpa using h1
      by_cases h2 : m.fKind = 2
      · rw [h2] at k g
        have h3 := putVar_length (M.putVar (M.putVar [] 2) m.fGen) (bAnd .i64 m.fWant 1048575)
        have h4 := putVar_length (M.putVar (M.putVar (M.putVar [] 2) m.fGen) (bAnd .i64 m.fWant 1048575)) (bShr .i64 m.fWant 20)
        have h5 := putVar_length (M.putVar (M.putVar (M.putVar (M.putVar [] 2) m.fGen) (bAnd .i64 m.fWant 1048575)) (bShr .i64 m.fWant 20)) (bAnd .i64 m.fDone 1048575)
        simp only [h2, beq_self_eq_true, cond_true, if_true, impl_putSet]
        rw [impl_PutVar_eq hu (by omega)]; simp only [Option.bind_some]
        rw [impl_PutVar_eq hu (by omega)]; simp only [Option.bind_some]
        rw [impl_PutVar_eq hu (by omega)]; simp only [Option.bind_some]
        rw [impl_PutVar_eq hu (by omega)]; simp only [Option.bind_some]
        rw [impl_PutVar_eq hu (by omega)]; rfl
      · have e2 : (m.fKind == 2) = false := by simpa using h2
        by_cases h3 : m.fKind = 3
        · rw [h3] at k g
          have h4 := putVar_length (M.putVar (M.putVar [] 3) m.fGen) m.fI
          have h5 := putVar_length (M.putVar (M.putVar (M.putVar [] 3) m.fGen) m.fI) m.fB.length
          simp only [h3, beq_self_eq_true, cond_true, if_true, impl_PutPart]
          rw [impl_PutVar_eq hu (by omega)]; simp only [Option.bind_some]
          rw [impl_PutVar_eq hu (by omega)]; simp only [Option.bind_some]
          rw [impl_PutVar_eq hu (by omega)]; simp only [Option.bind_some]
          rw [chk_dec (by omega)]; rfl
        · have e3 : (m.fKind == 3) = false := by simpa using h3
          by_cases h4 : m.fKind = 4
          · rw [h4] at k
            simp only [h4, beq_self_eq_true, cond_true, if_true]
            rw [impl_PutVar_eq hu (by omega)]; rfl
          · have e4 : (m.fKind == 4) = false := by simpa using h4
            simp only [e1, e2, e3, e4, h1, h2, h3, h4, cond_false, if_false]
theorem putVar_in {c : List Int} {n : Int} (h0 : 0 ≤ n) (h1 : n ≤ 1000000000000) : M.putVar c n = c ++ M.var 9 n := by
  unfold M.putVar
  rw [if_pos (by simp [M.within]; omega)]
theorem getSums_put {b : List Int} (hb : M.isBytes b) : ∀ (n : Nat) (a : Int) (acc l : List Sum) (e : Int), M.getSums n b a acc = some (l, e) → 0 ≤ a → a ≤ b.length → ∃ l', l = acc ++ l' ∧ a ≤ e ∧ e ≤ b.length ∧ b.take e.toNat = M.putSums (b.take a.toNat) l' ∧ ∀ s ∈ l', s.fS ≤ 9223372036854775807 := by
  intro n
  induction n with
  | zero =>
    intro a acc l e h h0 h1
    simp only [M.getSums, Option.some.injEq, Prod.mk.injEq] at h
    obtain ⟨rfl, rfl⟩ := h
    exact ⟨[], by simp, by omega, h1, rfl, by simp⟩
  | succ n ih =>
    intro a acc l e h h0 h1
    unfold M.getSums at h
    cases hr : M.rdAt 8 b a with
    | none => rw [hr] at h; cases h
    | some q =>
      obtain ⟨v, e1⟩ := q
      rw [hr] at h
      dsimp only at h
      have p := rdAt_put hb hr (by omega)
      split at h
      · rename_i hv
        obtain ⟨l', g1, g2, g3, g4, g5⟩ := ih e1 _ l e h (by omega) p.2.2.1
        have hs : (M.sumOf (M.bytesOf v).1).fS = v := by
          have := sumOf_bytesOf (s := v) (b := (M.bytesOf v).1) (by rw [← hv])
          rw [this]
        have hp : (128 : Int) ^ 8 = 72057594037927936 := by decide
        refine ⟨M.sumOf (M.bytesOf v).1 :: l', by rw [g1]; simp, by omega, g3, ?_, ?_⟩
        · rw [g4, p.2.2.2.2.2, M.putSums, hs]
        · intro s hs'
          rcases List.mem_cons.1 hs' with rfl | hs'
          · rw [hs]; omega
          · exact g5 s hs'
      · cases h
theorem getMan_put {b : List Int} (hb : M.isBytes b) {a e : Int} {m : Manifest} (h : M.getMan b a = (m, e, true)) : 0 ≤ a ∧ a ≤ e ∧ e ≤ b.length ∧ M.manOk m = true ∧ M.manWf m ∧ b.take e.toNat = M.putMan (b.take a.toNat) m := by
  unfold M.getMan at h
  rcases getVar_cases b a with ⟨v1, e1, h1⟩ | h1
  · rw [h1] at h
    dsimp only at h
    rcases getVar_cases b e1 with ⟨v2, e2, h2⟩ | h2
    · rw [h2] at h
      dsimp only at h
      rcases getVar_cases b e2 with ⟨v3, e3, h3⟩ | h3
      · rw [h3] at h
        simp only [Bool.and_self, if_true] at h
        have p1 := getVar_put hb h1
        have p2 := getVar_put hb h2
        have p3 := getVar_put hb h3
        cases hs : M.getSums (M.blocks v2 v3).toNat b e3 [] with
        | none => rw [hs] at h; cases h
        | some q =>
          obtain ⟨ss, e'⟩ := q
          rw [hs] at h
          unfold M.manRes at h
          dsimp only at h
          split at h
          · rename_i hm
            simp only [Prod.mk.injEq, and_true] at h
            obtain ⟨rfl, rfl⟩ := h
            obtain ⟨l', g1, g2, g3, g4, g5⟩ := getSums_put hb _ e3 [] ss e' hs (by omega) p3.2.2.1
            rw [List.nil_append] at g1
            subst g1
            refine ⟨p1.1, by omega, g3, hm, g5, ?_⟩
            unfold M.putMan
            rw [if_pos hm, putVar_in p1.2.2.2.1 p1.2.2.2.2.1, putVar_in p2.2.2.2.1 p2.2.2.2.2.1, putVar_in p3.2.2.2.1 p3.2.2.2.2.1, g4, p3.2.2.2.2.2, p2.2.2.2.2.2, p1.2.2.2.2.2]
          · cases h
      · rw [h3] at h; simp [M.noMan] at h
    · rw [h2] at h; simp [M.noMan] at h
  · rw [h1] at h; simp [M.noMan] at h
def M.low (n : Int) : Bool := decide (n < 1048576)
def M.zm : Manifest := ⟨0, 0, 0, []⟩
def M.parse2 (b : List Int) (a : Int) : Option (Msg × Int) :=
  let g0 := M.getVar b a
  let g1 := M.getVar b g0.2.1
  let g2 := M.getVar b g1.2.1
  let g3 := M.getVar b g2.2.1
  let g4 := M.getVar b g3.2.1
  if g0.2.2 && ((g1.2.2 && M.low g1.1) && ((g2.2.2 && M.low g2.1) && ((g3.2.2 && M.low g3.1) && (g4.2.2 && M.low g4.1)))) then some (⟨2, g0.1, M.zm, g1.1 + g2.1 * 1048576, g3.1 + g4.1 * 1048576, 0, []⟩, g4.2.1) else none
def M.parse3 (b : List Int) (a : Int) : Option (Msg × Int) :=
  let g0 := M.getVar b a
  let g1 := M.getVar b g0.2.1
  let g2 := M.getPart b g1.2.1
  if g0.2.2 && g1.2.2 && g2.2.2 then some (⟨3, g0.1, M.zm, 0, 0, g1.1, g2.1⟩, g2.2.1) else none
theorem getVar_nonneg {b : List Int} (hb : M.isBytes b) (a : Int) : 0 ≤ (M.getVar b a).1 := by
  rcases getVar_cases b a with ⟨v, e, h⟩ | h
  · rw [h]; exact (getVar_put hb h).2.2.2.1
  · rw [h]; exact Int.le_refl 0
theorem l12_step {u : Nat} (hu : 1099511627776 ≤ u) {b : List Int} (hb : M.isBytes b) (hl : b.length ≤ 1048576) (k : Nat) (a : Int) (acc : List Int) (i : Nat) (hi : i < 4) (hacc : acc.length ≤ 4) (p2 : Int) (r2 : Int × Int × Bool) :
    spec_l12Body_l3 u (k + 1) b a acc i p2 r2 = if (M.getVar b a).2.2 && M.low (M.getVar b a).1 then spec_l12Body_l3 u k b (M.getVar b a).2.1 (acc ++ [(M.getVar b a).1]) ((i + 1 : Nat) : Int) p2 r2 else some (⟨p2, r2.1, M.zm, 0, 0, 0, []⟩, 0, false) := by
  have e : (i : Int) < 4 := by omega
  rw [spec_l12Body_l3]
  simp only [e, decide_true, cond_true, spec_GetVar_eq hu hb hl, Option.bind_some]
  unfold spec_l12Body_j4 M.low
  rw [chk_dec (by simp; omega), bAdd_succ (by omega)]
  cases h : (M.getVar b a).2.2 with
  | false => rfl
  | true =>
    by_cases hq : (M.getVar b a).1 < 1048576
    · have hq' : ¬ (M.getVar b a).1 ≥ 1048576 := by omega
      simp [hq, hq']
    · have hq' : (M.getVar b a).1 ≥ 1048576 := by omega
      simp [hq, hq', M.zm]
theorem set_sum {x y : Int} (h1 : 0 ≤ x) (h2 : x < 1048576) (h3 : 0 ≤ y) (h4 : y < 1048576) : bAdd .i64 x (bShl .i64 y 20) = x + y * 1048576 ∧ bOr .i64 x (bShl .i64 y 20) = x + y * 1048576 ∧ bAnd .i64 (x + y * 1048576) 1048575 = x ∧ bShr .i64 (x + y * 1048576) 20 = y := by
  obtain ⟨a, rfl⟩ := Int.eq_ofNat_of_zero_le h1
  obtain ⟨c, rfl⟩ := Int.eq_ofNat_of_zero_le h3
  have hp : (2 : Nat) ^ 20 = 1048576 := by decide
  have e := bShl_nat (a := c) (n := 20) (by omega) (by rw [hp]; omega)
  rw [hp] at e
  rw [show ((20 : Nat) : Int) = 20 by rfl] at e
  rw [e]
  refine ⟨by rw [bAdd_i64 (by omega) (by omega)]; omega, ?_, ?_, ?_⟩
  · have h := or_add (v := a) (a := c) (n := 20) (by rw [hp]; omega)
    rw [hp] at h
    rw [bOr_nat (by omega) (by omega), h]; omega
  · rw [show (a : Int) + (c : Int) * 1048576 = ((a + c * 1048576 : Nat) : Int) by omega, show (1048575 : Int) = ((1048575 : Nat) : Int) by rfl, bAnd_nat (by omega) (by omega), show (1048575 : Nat) = 2 ^ 20 - 1 by decide, Nat.and_two_pow_sub_one_eq_mod, hp]; omega
  · rw [show (a : Int) + (c : Int) * 1048576 = ((a + c * 1048576 : Nat) : Int) by omega, show (20 : Int) = ((20 : Nat) : Int) by rfl, bShr_nat (by omega), hp]; omega
theorem spec_body2 {u : Nat} (hu : 1099511627776 ≤ u) {b : List Int} (hb : M.isBytes b) (hl : b.length ≤ 1048576) (a : Int) : ∃ r, spec_l12Body u b a 2 = some r ∧ (match M.parse2 b a with | some (m, e) => r = (m, e, true) | none => r.2.2 = false) := by
  obtain ⟨u', hu'⟩ : ∃ j, u = j + 5 := ⟨u - 5, by omega⟩
  unfold spec_l12Body M.parse2
  rw [show ((2 : Int) == 1) = false by rfl, show ((2 : Int) == 2) = true by rfl]
  simp only [cond_false, cond_true, spec_GetVar_eq hu hb hl, Option.bind_some]
  cases h0 : (M.getVar b a).2.2 with
  | false => exact ⟨_, rfl, rfl⟩
  | true =>
    simp only [Bool.not_true, cond_false, Bool.true_and]
    have st : ∀ (k : Nat) (a : Int) (acc : List Int) (i : Nat), i < 4 → acc.length ≤ 4 → ∀ r2 : Int × Int × Bool, spec_l12Body_l3 u (k + 1) b a acc i 2 r2 = if (M.getVar b a).2.2 && M.low (M.getVar b a).1 then spec_l12Body_l3 u k b (M.getVar b a).2.1 (acc ++ [(M.getVar b a).1]) ((i + 1 : Nat) : Int) 2 r2 else some (⟨2, r2.1, M.zm, 0, 0, 0, []⟩, 0, false) := fun k a acc i h1 h2 r2 => l12_step hu hb hl k a acc i h1 h2 2 r2
    generalize hv : M.getVar b a = g0
    rw [show spec_l12Body_l3 u u b g0.2.1 [] 0 2 g0 = spec_l12Body_l3 u (u' + 4 + 1) b g0.2.1 [] ((0 : Nat) : Int) 2 g0 by rw [← hu']; rfl, st _ _ _ 0 (by omega) (by simp)]
    cases h1 : ((M.getVar b g0.2.1).2.2 && M.low (M.getVar b g0.2.1).1) with
    | false => exact ⟨_, rfl, rfl⟩
    | true =>
      simp only [if_true, Bool.true_and, List.nil_append]
      rw [show u' + 4 = u' + 3 + 1 by omega, st _ _ _ 1 (by omega) (by simp)]
      generalize hv1 : M.getVar b g0.2.1 = g1
      cases h2 : ((M.getVar b g1.2.1).2.2 && M.low (M.getVar b g1.2.1).1) with
      | false => exact ⟨_, rfl, rfl⟩
      | true =>
        simp only [if_true, Bool.true_and]
        rw [show u' + 3 = u' + 2 + 1 by omega, st _ _ _ 2 (by omega) (by simp)]
        generalize hv2 : M.getVar b g1.2.1 = g2
        cases h3 : ((M.getVar b g2.2.1).2.2 && M.low (M.getVar b g2.2.1).1) with
        | false => exact ⟨_, rfl, rfl⟩
        | true =>
          simp only [if_true, Bool.true_and]
          rw [show u' + 2 = u' + 1 + 1 by omega, st _ _ _ 3 (by omega) (by simp)]
          generalize hv3 : M.getVar b g2.2.1 = g3
          cases h4 : ((M.getVar b g3.2.1).2.2 && M.low (M.getVar b g3.2.1).1) with
          | false => exact ⟨_, rfl, rfl⟩
          | true =>
            simp only [if_true]
            rw [spec_l12Body_l3]
            have e : ¬ (((3 + 1 : Nat) : Int) < 4) := by omega
            simp only [e, decide_false, cond_false]
            unfold spec_l12Body_j2 spec_l12Body_j1
            rw [show (0 : Int) = ((0 : Nat) : Int) by rfl, show (1 : Int) = ((1 : Nat) : Int) by rfl, show (2 : Int) = ((2 : Nat) : Int) by rfl, show (3 : Int) = ((3 : Nat) : Int) by rfl]
            simp only [idx_nat, List.nil_append, List.cons_append, List.append_assoc, List.getElem?_cons_zero, List.getElem?_cons_succ, Option.bind_some]
            refine ⟨_, rfl, ?_⟩
            have r1 : 0 ≤ g1.1 ∧ g1.1 < 1048576 := by
              rw [← hv1]; refine ⟨getVar_nonneg hb _, ?_⟩
              simp only [Bool.and_eq_true, M.low, decide_eq_true_eq] at h1; exact h1.2
            have r2 : 0 ≤ g2.1 ∧ g2.1 < 1048576 := by
              rw [← hv2]; refine ⟨getVar_nonneg hb _, ?_⟩
              simp only [Bool.and_eq_true, M.low, decide_eq_true_eq] at h2; exact h2.2
            have r3 : 0 ≤ g3.1 ∧ g3.1 < 1048576 := by
              rw [← hv3]; refine ⟨getVar_nonneg hb _, ?_⟩
              simp only [Bool.and_eq_true, M.low, decide_eq_true_eq] at h3; exact h3.2
            have r4 : 0 ≤ (M.getVar b g3.2.1).1 ∧ (M.getVar b g3.2.1).1 < 1048576 := by
              refine ⟨getVar_nonneg hb _, ?_⟩
              simp only [Bool.and_eq_true, M.low, decide_eq_true_eq] at h4; exact h4.2
            rw [(set_sum r1.1 r1.2 r2.1 r2.2).1, (set_sum r3.1 r3.2 r4.1 r4.2).1]
            rfl
theorem nxt {b p t : List Int} {e e' v n : Int} (hb : b = p ++ M.var 9 n ++ t) (hp : b.take e.toNat = p) (h0 : 0 ≤ e) (h1 : e ≤ b.length) (hg : M.getVar b e = (v, e', true)) (n0 : 0 ≤ n) (n1 : n ≤ 1000000000000) : v = n ∧ b.take e'.toNat = p ++ M.var 9 n := by
  have hl : p.length = e.toNat := by rw [← hp, List.length_take]; omega
  have h := getVar_var (p := p) (n := n) t n0 n1
  rw [← hb, hl, show ((e.toNat : Nat) : Int) = e by omega, hg] at h
  simp only [Prod.mk.injEq, and_true] at h
  refine ⟨h.1, ?_⟩
  rw [h.2, Int.toNat_natCast, hb, ← hl, ← List.length_append, List.take_left]
theorem setOk_split {w : Int} (h : M.setOk w = true) : ∃ x y, 0 ≤ x ∧ x < 1048576 ∧ 0 ≤ y ∧ y < 1048576 ∧ bAnd .i64 w 1048575 = x ∧ bShr .i64 w 20 = y := by
  have h := within_t h
  have := set_sum (x := w % 1048576) (y := w / 1048576) (by omega) (by omega) (by omega) (by omega)
  refine ⟨w % 1048576, w / 1048576, by omega, by omega, by omega, by omega, ?_, ?_⟩
  · have h2 := this.2.2.1
    rwa [show w % 1048576 + w / 1048576 * 1048576 = w by omega] at h2
  · have h2 := this.2.2.2
    rwa [show w % 1048576 + w / 1048576 * 1048576 = w by omega] at h2
theorem putVar0 {k : Int} (h0 : 0 ≤ k) (h1 : k ≤ 1000000000000) : M.putVar [] k = M.var 9 k := by rw [putVar_in h0 h1]; rfl
theorem low_bad {b : List Int} (hb : M.isBytes b) {a v0 e0 v1 e1 v2 e2 v3 e3 v4 e4 W D : Int} (ha : b.take a.toNat = M.var 9 2) (h0 : M.getVar b a = (v0, e0, true)) (h1 : M.getVar b e0 = (v1, e1, true)) (h2 : M.getVar b e1 = (v2, e2, true)) (h3 : M.getVar b e2 = (v3, e3, true)) (h4 : M.getVar b e3 = (v4, e4, true))
    (hok : M.msgOk ⟨2, v0, M.zm, W, D, 0, []⟩ = true) (hp : M.putMsg ⟨2, v0, M.zm, W, D, 0, []⟩ = b) : M.low v1 = true ∧ M.low v2 = true ∧ M.low v3 = true ∧ M.low v4 = true := by
  have p0 := getVar_put hb h0
  have p1 := getVar_put hb h1
  have p2 := getVar_put hb h2
  have p3 := getVar_put hb h3
  have p4 := getVar_put hb h4
  have hs : M.setOk W = true ∧ M.setOk D = true := by
    unfold M.msgOk at hok
    dsimp only at hok
    rw [if_neg (show ¬ ((2 : Int) = 1) by decide), if_pos rfl] at hok
    simp only [Bool.and_eq_true] at hok
    exact ⟨hok.1.1.1.2, hok.1.1.2⟩
  obtain ⟨x1, x2, a1, a2, a3, a4, a5, a6⟩ := setOk_split hs.1
  obtain ⟨x3, x4, c1, c2, c3, c4, c5, c6⟩ := setOk_split hs.2
  unfold M.putMsg at hp
  rw [if_pos hok] at hp
  have hbody : M.putBody ⟨2, v0, M.zm, W, D, 0, []⟩ = M.var 9 2 ++ M.var 9 v0 ++ M.var 9 x1 ++ M.var 9 x2 ++ M.var 9 x3 ++ M.var 9 x4 := by
    show M.putSet (M.putSet (M.putVar (M.putVar [] 2) v0) W) D = _
    unfold M.putSet
    rw [a5, a6, c5, c6, putVar0 (by omega) (by omega), putVar_in p0.2.2.2.1 p0.2.2.2.2.1, putVar_in a1 (by omega), putVar_in a3 (by omega), putVar_in c1 (by omega), putVar_in c3 (by omega)]
  have hw := weakOf_range (M.putBody ⟨2, v0, M.zm, W, D, 0, []⟩)
  rw [putVar_in hw.1 (by omega), hbody] at hp
  generalize M.var 9 (M.weakOf (M.var 9 2 ++ M.var 9 v0 ++ M.var 9 x1 ++ M.var 9 x2 ++ M.var 9 x3 ++ M.var 9 x4)) = t at hp
  have q0 : b.take e0.toNat = M.var 9 2 ++ M.var 9 v0 := by rw [p0.2.2.2.2.2, ha]
  have q1 := nxt (t := M.var 9 x2 ++ M.var 9 x3 ++ M.var 9 x4 ++ t) (by rw [← hp]; simp) q0 (by omega) p0.2.2.1 h1 a1 (by omega)
  have q2 := nxt (t := M.var 9 x3 ++ M.var 9 x4 ++ t) (by rw [← hp]; simp) q1.2 (by omega) p1.2.2.1 h2 a3 (by omega)
  have q3 := nxt (t := M.var 9 x4 ++ t) (by rw [← hp]; simp) q2.2 (by omega) p2.2.2.1 h3 c1 (by omega)
  have q4 := nxt (t := t) (by rw [← hp]) q3.2 (by omega) p3.2.2.1 h4 c3 (by omega)
  unfold M.low
  simp only [decide_eq_true_eq]
  omega
theorem zm_wf (k g w d i : Int) {p : List Int} (hp : M.isBytes p) (hl : p.length ≤ 1048576) : M.MsgWf ⟨k, g, M.zm, w, d, i, p⟩ := ⟨by simp [M.zm], by intro s hs; simp [M.zm] at hs, hp, hl⟩
def M.good (b : List Int) (r : Msg × Bool) (o : Option (Msg × Int)) : Prop := match o with
  | some (m, e) => r = (m, true)
  | none => r.2 = false ∨ (M.MsgWf r.1 ∧ (M.msgOk r.1 = true → M.putMsg r.1 ≠ b))
theorem good_no {b : List Int} {r : Msg × Bool} {c : Bool} {x : Msg × Int} (hc : c = false) (hr : r.2 = false) : M.good b r (if c then some x else none) := by
  subst hc; exact .inl hr
theorem cond_nt {α : Type} {b : Bool} (h : b = true) (x y : α) : (bif !b then x else y) = y := by subst h; rfl
theorem bsome {α β : Type} (a : α) (f : α → Option β) : (some a).bind f = f a := (Option.bind_some (a := a) (f := f)).trans (Eq.refl _)
theorem idx50 (a b c d e : Int) : idx [a, b, c, d, e] 0 = some a := (idx_nat [a, b, c, d, e] 0).trans rfl
theorem idx51 (a b c d e : Int) : idx [a, b, c, d, e] 1 = some b := (idx_nat [a, b, c, d, e] 1).trans rfl
theorem idx52 (a b c d e : Int) : idx [a, b, c, d, e] 2 = some c := (idx_nat [a, b, c, d, e] 2).trans rfl
theorem idx53 (a b c d e : Int) : idx [a, b, c, d, e] 3 = some d := (idx_nat [a, b, c, d, e] 3).trans rfl
theorem idx54 (a b c d e : Int) : idx [a, b, c, d, e] 4 = some e := (idx_nat [a, b, c, d, e] 4).trans rfl
theorem impl_body2 {u : Nat} (hu : 1099511627776 ≤ u) {b : List Int} (hb : M.isBytes b) (hl : b.length ≤ 1048576) {a : Int} (ha : b.take a.toNat = M.var 9 2) : ∃ r, impl_readMsg u b 2 a = some r ∧ M.good b r (M.parse2 b a) := by
  unfold impl_readMsg M.parse2
  rw [show ((2 : Int) == 1) = false by rfl, show ((2 : Int) == 2) = true by rfl]
  simp only [cond_false, cond_true]
  rw [show (5 : Int) = ((5 : Nat) : Int) by rfl, readVars_eq hu hb hl a 5 (by omega)]
  simp only [Option.bind_some, M.getVars]
  rcases getVar_cases b a with ⟨v0, e0, h0⟩ | h0
  · rw [h0]
    simp only [if_true]
    rcases getVar_cases b e0 with ⟨v1, e1, h1⟩ | h1
    · rw [h1]
      simp only [if_true]
      rcases getVar_cases b e1 with ⟨v2, e2, h2⟩ | h2
      · rw [h2]
        simp only [if_true]
        rcases getVar_cases b e2 with ⟨v3, e3, h3⟩ | h3
        · rw [h3]
          simp only [if_true]
          rcases getVar_cases b e3 with ⟨v4, e4, h4⟩ | h4
          · rw [h4]
            rw [if_pos rfl, cond_nt (by rfl)]
            have hq : [] ++ [v0] ++ [v1] ++ [v2] ++ [v3] ++ [v4] = [v0, v1, v2, v3, v4] := rfl
            rw [hq, idx50, idx51, idx52, idx53, idx54, bsome, bsome, bsome, bsome, bsome]
            unfold impl_readMsg_j1
            refine ⟨_, rfl, ?_⟩
            have p1 := getVar_put hb h1
            have p2 := getVar_put hb h2
            have p3 := getVar_put hb h3
            have p4 := getVar_put hb h4
            cases hc : (true && (true && M.low v1 && (true && M.low v2 && (true && M.low v3 && (true && M.low v4))))) with
            | true =>
              simp only [Bool.true_and, Bool.and_eq_true, M.low, decide_eq_true_eq] at hc
              simp only [if_true, M.good]
              rw [(set_sum p1.2.2.2.1 hc.1 p2.2.2.2.1 hc.2.1).2.1, (set_sum p3.2.2.2.1 hc.2.2.1 p4.2.2.2.1 hc.2.2.2).2.1]
              rfl
            | false =>
              simp only [Bool.false_eq_true, if_false, M.good]
              refine .inr ⟨zm_wf _ _ _ _ _ nil_bytes (by simp), fun hok hp => ?_⟩
              have := low_bad hb ha h0 h1 h2 h3 h4 hok hp
              rw [this.1, this.2.1, this.2.2.1, this.2.2.2] at hc
              cases hc
          · rw [h4]; exact ⟨_, rfl, good_no (by simp) rfl⟩
        · rw [h3]; exact ⟨_, rfl, good_no (by simp) rfl⟩
      · rw [h2]; exact ⟨_, rfl, good_no (by simp) rfl⟩
    · rw [h1]; exact ⟨_, rfl, good_no (by simp) rfl⟩
  · rw [h0]; exact ⟨_, rfl, good_no (by simp) rfl⟩
theorem put2 {b : List Int} (hb : M.isBytes b) {a e : Int} {m : Msg} (ha : b.take a.toNat = M.var 9 2) (h : M.parse2 b a = some (m, e)) : M.MsgWf m ∧ 0 ≤ e ∧ e ≤ b.length ∧ M.putBody m = b.take e.toNat := by
  unfold M.parse2 at h
  dsimp only at h
  split at h
  · rename_i hc
    simp only [Bool.and_eq_true, M.low, decide_eq_true_eq] at hc
    obtain ⟨k0, ⟨k1, l1⟩, ⟨k2, l2⟩, ⟨k3, l3⟩, k4, l4⟩ := hc
    simp only [Option.some.injEq, Prod.mk.injEq] at h
    obtain ⟨rfl, rfl⟩ := h
    rcases (getVar_cases b a).symm with h0 | ⟨v0, e0, h0⟩
    · simp [h0] at k0
    simp only [h0] at k0 k1 l1 k2 l2 k3 l3 k4 l4 ⊢
    rcases (getVar_cases b e0).symm with h1 | ⟨v1, e1, h1⟩
    · simp [h1] at k1
    simp only [h1] at k0 k1 l1 k2 l2 k3 l3 k4 l4 ⊢
    rcases (getVar_cases b e1).symm with h2 | ⟨v2, e2, h2⟩
    · simp [h2] at k2
    simp only [h2] at k0 k1 l1 k2 l2 k3 l3 k4 l4 ⊢
    rcases (getVar_cases b e2).symm with h3 | ⟨v3, e3, h3⟩
    · simp [h3] at k3
    simp only [h3] at k0 k1 l1 k2 l2 k3 l3 k4 l4 ⊢
    rcases (getVar_cases b e3).symm with h4 | ⟨v4, e4, h4⟩
    · simp [h4] at k4
    simp only [h4] at k0 k1 l1 k2 l2 k3 l3 k4 l4 ⊢
    have p0 := getVar_put hb h0
    have p1 := getVar_put hb h1
    have p2 := getVar_put hb h2
    have p3 := getVar_put hb h3
    have p4 := getVar_put hb h4
    have s1 := set_sum p1.2.2.2.1 l1 p2.2.2.2.1 l2
    have s2 := set_sum p3.2.2.2.1 l3 p4.2.2.2.1 l4
    refine ⟨zm_wf _ _ _ _ _ nil_bytes (by simp), by omega, p4.2.2.1, ?_⟩
    show M.putSet (M.putSet (M.putVar (M.putVar [] 2) v0) (v1 + v2 * 1048576)) (v3 + v4 * 1048576) = b.take e4.toNat
    unfold M.putSet
    rw [s1.2.2.1, s1.2.2.2, s2.2.2.1, s2.2.2.2, putVar0 (by omega) (by omega), putVar_in p0.2.2.2.1 p0.2.2.2.2.1, putVar_in p1.2.2.2.1 p1.2.2.2.2.1, putVar_in p2.2.2.2.1 p2.2.2.2.2.1, putVar_in p3.2.2.2.1 p3.2.2.2.2.1, putVar_in p4.2.2.2.1 p4.2.2.2.2.1]
    rw [p4.2.2.2.2.2, p3.2.2.2.2.2, p2.2.2.2.2.2, p1.2.2.2.2.2, p0.2.2.2.2.2, ha]
  · cases h
def M.goodS (r : Msg × Int × Bool) (o : Option (Msg × Int)) : Prop := match o with
  | some (m, e) => r = (m, e, true)
  | none => r.2.2 = false ∨ (r.1.fMan.fSums.length ≤ 1048576 ∧ M.msgOk r.1 = false)
def M.puts (b : List Int) (o : Option (Msg × Int)) : Prop := ∀ m e, o = some (m, e) → M.MsgWf m ∧ 0 ≤ e ∧ e ≤ b.length ∧ M.putBody m = b.take e.toNat
theorem flag3 {α : Type} (r : α × Int × Bool) (h : r.2.2 = true) : r = (r.1, r.2.1, true) := by rw [← h]
def M.parse1 (b : List Int) (a : Int) : Option (Msg × Int) := if (M.getMan b a).2.2 then some (⟨1, 0, (M.getMan b a).1, 0, 0, 0, []⟩, (M.getMan b a).2.1) else none
def M.parse4 (b : List Int) (a : Int) : Option (Msg × Int) := if (M.getVar b a).2.2 then some (⟨4, (M.getVar b a).1, M.zm, 0, 0, 0, []⟩, (M.getVar b a).2.1) else none
theorem spec_body1 {u : Nat} (hu : 1099511627776 ≤ u) {b : List Int} (hb : M.isBytes b) (hl : b.length ≤ 1048576) (a : Int) : ∃ r, spec_l12Body u b a 1 = some r ∧ M.goodS r (M.parse1 b a) := by
  refine ⟨(⟨1, 0, (M.getMan b a).1, 0, 0, 0, []⟩, (M.getMan b a).2.1, (M.getMan b a).2.2), ?_, ?_⟩
  · unfold spec_l12Body
    rw [spec_GetMan_eq hu hb hl]; rfl
  · unfold M.parse1 M.goodS
    cases h : (M.getMan b a).2.2 with
    | false => exact .inl rfl
    | true => rfl
theorem impl_body1 {u : Nat} (hu : 1099511627776 ≤ u) {b : List Int} (hb : M.isBytes b) (hl : b.length ≤ 1048576) (a : Int) : ∃ r, impl_readMsg u b 1 a = some r ∧ M.good b r (M.parse1 b a) := by
  refine ⟨(⟨1, 0, (M.getMan b a).1, 0, 0, 0, []⟩, (M.getMan b a).2.2), ?_, ?_⟩
  · unfold impl_readMsg
    rw [impl_GetMan_eq hu hb hl]; rfl
  · unfold M.parse1 M.good
    cases h : (M.getMan b a).2.2 with
    | false => exact .inl rfl
    | true => rfl
theorem put1 {b : List Int} (hb : M.isBytes b) {a : Int} (ha : b.take a.toNat = M.var 9 1) : M.puts b (M.parse1 b a) := by
  intro m e h
  unfold M.parse1 at h
  split at h
  · rename_i hc
    simp only [Option.some.injEq, Prod.mk.injEq] at h
    obtain ⟨rfl, rfl⟩ := h
    have p := getMan_put hb (flag3 _ hc)
    refine ⟨⟨by have := manOk_len p.2.2.2.1; show (M.getMan b a).1.fSums.length ≤ _; omega, p.2.2.2.2.1, nil_bytes, by simp⟩, by omega, p.2.2.1, ?_⟩
    rw [p.2.2.2.2.2, ha, ← putVar0 (by omega) (by omega)]
    rfl
  · cases h
theorem spec_body3 {u : Nat} (hu : 1099511627776 ≤ u) {b : List Int} (hb : M.isBytes b) (hl : b.length ≤ 1048576) (a : Int) : ∃ r, spec_l12Body u b a 3 = some r ∧ M.goodS r (M.parse3 b a) := by
  unfold spec_l12Body M.parse3
  rw [show ((3 : Int) == 1) = false by rfl, show ((3 : Int) == 2) = false by rfl, show ((3 : Int) == 3) = true by rfl]
  simp only [cond_false, cond_true, spec_GetVar_eq hu hb hl, spec_GetPart_eq hu hb hl, Option.bind_some]
  rcases getVar_cases b a with ⟨v0, e0, h0⟩ | h0
  · rw [h0]
    dsimp only
    rcases getVar_cases b e0 with ⟨v1, e1, h1⟩ | h1
    · rw [h1]
      dsimp only
      cases h2 : (M.getPart b e1).2.2 with
      | false => exact ⟨_, rfl, .inl rfl⟩
      | true => exact ⟨_, rfl, rfl⟩
    · rw [h1]; exact ⟨_, rfl, .inl rfl⟩
  · rw [h0]; exact ⟨_, rfl, .inl rfl⟩
theorem idx20 (a b : Int) : idx [a, b] 0 = some a := (idx_nat [a, b] 0).trans rfl
theorem idx21 (a b : Int) : idx [a, b] 1 = some b := (idx_nat [a, b] 1).trans rfl
theorem impl_body3 {u : Nat} (hu : 1099511627776 ≤ u) {b : List Int} (hb : M.isBytes b) (hl : b.length ≤ 1048576) (a : Int) : ∃ r, impl_readMsg u b 3 a = some r ∧ M.good b r (M.parse3 b a) := by
  unfold impl_readMsg M.parse3
  rw [show ((3 : Int) == 1) = false by rfl, show ((3 : Int) == 2) = false by rfl, show ((3 : Int) == 3) = true by rfl]
  simp only [cond_false, cond_true, impl_GetPart_eq hu hb hl]
  have hrv := readVars_eq hu hb hl a 2 (by omega)
  rw [show ((2 : Nat) : Int) = 2 from rfl] at hrv
  rw [hrv]
  simp only [Option.bind_some, M.getVars]
  rcases getVar_cases b a with ⟨v0, e0, h0⟩ | h0
  · rw [h0]
    simp only [if_true]
    rcases getVar_cases b e0 with ⟨v1, e1, h1⟩ | h1
    · rw [h1, if_pos rfl, cond_nt (by rfl)]
      have hq : [] ++ [v0] ++ [v1] = [v0, v1] := rfl
      rw [hq, idx20, idx21, bsome, bsome]
      dsimp only
      cases h2 : (M.getPart b e1).2.2 with
      | false => exact ⟨_, rfl, .inl rfl⟩
      | true => exact ⟨_, rfl, rfl⟩
    · rw [h1]; exact ⟨_, rfl, good_no (by simp) rfl⟩
  · rw [h0]; exact ⟨_, rfl, good_no (by simp) rfl⟩
theorem put3 {b : List Int} (hb : M.isBytes b) {a : Int} (ha : b.take a.toNat = M.var 9 3) : M.puts b (M.parse3 b a) := by
  intro m e h
  unfold M.parse3 at h
  dsimp only at h
  split at h
  · rename_i hc
    simp only [Bool.and_eq_true] at hc
    obtain ⟨⟨k0, k1⟩, k2⟩ := hc
    simp only [Option.some.injEq, Prod.mk.injEq] at h
    obtain ⟨rfl, rfl⟩ := h
    have p0 := getVar_put hb (flag3 _ k0)
    have p1 := getVar_put hb (flag3 _ k1)
    have p2 := getPart_put hb (flag3 _ k2)
    generalize M.getVar b a = g0 at *
    generalize M.getVar b g0.2.1 = g1 at *
    generalize M.getPart b g1.2.1 = g2 at *
    refine ⟨zm_wf _ _ _ _ _ p2.2.2.2.1 (by omega), by omega, p2.2.2.1, ?_⟩
    show M.putVar (M.putVar (M.putVar (M.putVar [] 3) g0.1) g1.1) g2.1.length ++ g2.1 = b.take g2.2.1.toNat
    rw [putVar0 (by omega) (by omega), putVar_in p0.2.2.2.1 p0.2.2.2.2.1, putVar_in p1.2.2.2.1 p1.2.2.2.2.1, putVar_in (by omega) (by omega), p2.2.2.2.2.2, p1.2.2.2.2.2, p0.2.2.2.2.2, ha]
  · cases h
theorem spec_body4 {u : Nat} (hu : 1099511627776 ≤ u) {b : List Int} (hb : M.isBytes b) (hl : b.length ≤ 1048576) (a : Int) : ∃ r, spec_l12Body u b a 4 = some r ∧ M.goodS r (M.parse4 b a) := by
  unfold spec_l12Body M.parse4
  rw [show ((4 : Int) == 1) = false by rfl, show ((4 : Int) == 2) = false by rfl, show ((4 : Int) == 3) = false by rfl]
  simp only [cond_false, cond_true, spec_GetVar_eq hu hb hl, Option.bind_some]
  rcases getVar_cases b a with ⟨v0, e0, h0⟩ | h0
  · rw [h0]; exact ⟨_, rfl, rfl⟩
  · rw [h0]; exact ⟨_, rfl, .inl rfl⟩
theorem impl_body4 {u : Nat} (hu : 1099511627776 ≤ u) {b : List Int} (hb : M.isBytes b) (hl : b.length ≤ 1048576) (a : Int) : ∃ r, impl_readMsg u b 4 a = some r ∧ M.good b r (M.parse4 b a) := by
  unfold impl_readMsg M.parse4
  rw [show ((4 : Int) == 1) = false by rfl, show ((4 : Int) == 2) = false by rfl, show ((4 : Int) == 3) = false by rfl, show ((4 : Int) == 4) = true by rfl]
  simp only [cond_false, cond_true, impl_GetVar_eq hu hb hl, Option.bind_some]
  rcases getVar_cases b a with ⟨v0, e0, h0⟩ | h0
  · rw [h0]; exact ⟨_, rfl, rfl⟩
  · rw [h0]; exact ⟨_, rfl, .inl rfl⟩
theorem put4 {b : List Int} (hb : M.isBytes b) {a : Int} (ha : b.take a.toNat = M.var 9 4) : M.puts b (M.parse4 b a) := by
  intro m e h
  unfold M.parse4 at h
  split at h
  · rename_i k0
    simp only [Option.some.injEq, Prod.mk.injEq] at h
    obtain ⟨rfl, rfl⟩ := h
    have p0 := getVar_put hb (flag3 _ k0)
    generalize M.getVar b a = g0 at *
    refine ⟨zm_wf _ _ _ _ _ nil_bytes (by simp), by omega, p0.2.2.1, ?_⟩
    show M.putVar (M.putVar [] 4) g0.1 = b.take g0.2.1.toNat
    rw [putVar0 (by omega) (by omega), putVar_in p0.2.2.2.1 p0.2.2.2.2.1, p0.2.2.2.2.2, ha]
  · cases h
def M.read (b : List Int) (kind a : Int) : Option (Msg × Int) := if kind = 1 then M.parse1 b a else if kind = 2 then M.parse2 b a else if kind = 3 then M.parse3 b a else if kind = 4 then M.parse4 b a else none
theorem msgOk_kind {m : Msg} (h1 : m.fKind ≠ 1) (h2 : m.fKind ≠ 2) (h3 : m.fKind ≠ 3) (h4 : m.fKind ≠ 4) : M.msgOk m = false := by
  unfold M.msgOk; rw [if_neg h1, if_neg h2, if_neg h3, if_neg h4]
theorem spec_body {u : Nat} (hu : 1099511627776 ≤ u) {b : List Int} (hb : M.isBytes b) (hl : b.length ≤ 1048576) (k a : Int) : ∃ r, spec_l12Body u b a k = some r ∧ M.goodS r (M.read b k a) := by
  unfold M.read
  by_cases h1 : k = 1
  · subst h1; exact spec_body1 hu hb hl a
  · rw [if_neg h1]
    by_cases h2 : k = 2
    · subst h2
      obtain ⟨r, g1, g2⟩ := spec_body2 hu hb hl a
      refine ⟨r, g1, ?_⟩
      rw [if_pos rfl]
      unfold M.goodS
      cases hp : M.parse2 b a with
      | none => rw [hp] at g2; exact .inl g2
      | some q => rw [hp] at g2; exact g2
    · rw [if_neg h2]
      by_cases h3 : k = 3
      · subst h3; exact spec_body3 hu hb hl a
      · rw [if_neg h3]
        by_cases h4 : k = 4
        · subst h4; exact spec_body4 hu hb hl a
        · rw [if_neg h4]
          have e1 : (k == 1) = false := by simpa using h1
          have e2 : (k == 2) = false := by simpa using h2
          have e3 : (k == 3) = false := by simpa using h3
          unfold spec_l12Body
          rw [e1, e2, e3]
          simp only [cond_false, spec_GetVar_eq hu hb hl, Option.bind_some]
          rcases getVar_cases b a with ⟨v0, e0, h0⟩ | h0
          · rw [h0]
            exact ⟨(⟨k, v0, ⟨0, 0, 0, []⟩, 0, 0, 0, []⟩, e0, true), rfl, .inr ⟨by simp, msgOk_kind h1 h2 h3 h4⟩⟩
          · rw [h0]; exact ⟨_, rfl, .inl rfl⟩
theorem impl_body {u : Nat} (hu : 1099511627776 ≤ u) {b : List Int} (hb : M.isBytes b) (hl : b.length ≤ 1048576) {k a : Int} (ha : b.take a.toNat = M.var 9 k) : ∃ r, impl_readMsg u b k a = some r ∧ M.good b r (M.read b k a) := by
  unfold M.read
  by_cases h1 : k = 1
  · subst h1; exact impl_body1 hu hb hl a
  · rw [if_neg h1]
    by_cases h2 : k = 2
    · subst h2; exact impl_body2 hu hb hl ha
    · rw [if_neg h2]
      by_cases h3 : k = 3
      · subst h3; exact impl_body3 hu hb hl a
      · rw [if_neg h3]
        by_cases h4 : k = 4
        · subst h4; exact impl_body4 hu hb hl a
        · rw [if_neg h4]
          have e1 : (k == 1) = false := by simpa using h1
          have e2 : (k == 2) = false := by simpa using h2
          have e3 : (k == 3) = false := by simpa using h3
          have e4 : (k == 4) = false := by simpa using h4
          unfold impl_readMsg
          rw [e1, e2, e3, e4]
          exact ⟨_, rfl, .inl rfl⟩
theorem puts_read {b : List Int} (hb : M.isBytes b) {k a : Int} (ha : b.take a.toNat = M.var 9 k) : M.puts b (M.read b k a) := by
  unfold M.read
  by_cases h1 : k = 1
  · subst h1; exact put1 hb ha
  · rw [if_neg h1]
    by_cases h2 : k = 2
    · subst h2; exact fun m e h => put2 hb ha h
    · rw [if_neg h2]
      by_cases h3 : k = 3
      · subst h3; exact put3 hb ha
      · rw [if_neg h3]
        by_cases h4 : k = 4
        · subst h4; exact put4 hb ha
        · rw [if_neg h4]; intro m e h; cases h
def M.noMsg : Msg × Bool := (⟨0, 0, ⟨0, 0, 0, []⟩, 0, 0, 0, []⟩, false)
def M.getMsg (b : List Int) : Msg × Bool := if (M.getVar b 0).2.2 && decide (b.length ≤ 400) then match M.read b (M.getVar b 0).1 (M.getVar b 0).2.1 with
    | some (m, e) => if M.msgOk m && decide (M.putMsg m = b) then (m, true) else M.noMsg
    | none => M.noMsg
  else M.noMsg
theorem putMsg_bytes {m : Msg} (h : M.MsgWf m) : M.isBytes (M.putMsg m) := by
  unfold M.putMsg
  split
  · exact putVar_bytes (putBody_ok h).1 _
  · exact nil_bytes
theorem impl_GetMsg_eq {u : Nat} (hu : 1099511627776 ≤ u) {b : List Int} (hb : M.isBytes b) (hl : b.length ≤ 1048576) : impl_GetMsg u b = some (M.getMsg b) := by
  unfold impl_GetMsg M.getMsg impl_GetMsg_j1 impl_GetMsg_j2
  simp only [impl_GetVar_eq hu hb hl, Option.bind_some]
  rcases getVar_cases b 0 with ⟨k, a, h0⟩ | h0
  · rw [h0]
    have p := getVar_put hb h0
    have ha : b.take a.toNat = M.var 9 k := by rw [p.2.2.2.2.2]; rfl
    by_cases h4 : b.length ≤ 400
    · have h4' : ¬ ((b.length : Int) > 400) := by omega
      simp only [h4, h4', decide_true, decide_false, Bool.and_self, if_true, Bool.not_true, cond_false]
      obtain ⟨r, g1, g2⟩ := impl_body hu hb hl ha
      rw [g1]
      simp only [Option.bind_some]
      cases hr : M.read b k a with
      | none =>
        rw [hr] at g2
        rcases g2 with g2 | ⟨g2, g3⟩
        · rw [g2]; rfl
        · cases hf : r.2 with
          | false => rfl
          | true =>
            rw [impl_MsgOk_eq hu g2.sums]
            simp only [Bool.not_true, cond_false, Option.bind_some]
            cases hm : M.msgOk r.1 with
            | false => rfl
            | true =>
              simp only [Bool.not_true, cond_false, impl_PutMsg_eq hu g2, impl_SameBytes_eq, Option.bind_some]
              rw [sameBytes_eq (putMsg_bytes g2) hb, decide_eq_false (g3 hm)]; rfl
      | some q =>
        obtain ⟨m, e⟩ := q
        rw [hr] at g2
        have w := puts_read hb ha m e hr
        unfold M.good at g2
        dsimp only at g2
        rw [g2]
        dsimp only
        rw [impl_MsgOk_eq hu w.1.sums]
        simp only [Bool.not_true, cond_false, Option.bind_some]
        cases hm : M.msgOk m with
        | false => rfl
        | true =>
          simp only [Bool.not_true, cond_false, impl_PutMsg_eq hu w.1, impl_SameBytes_eq, Option.bind_some]
          rw [sameBytes_eq (putMsg_bytes w.1) hb]
          by_cases hp : M.putMsg m = b
          · simp [hp]
          · simp [hp, M.noMsg]
    · have h4' : (b.length : Int) > 400 := by omega
      simp [h4, h4', M.noMsg]
  · rw [h0]; simp [M.noMsg]
theorem sum_ok {b : List Int} (hb : M.isBytes b) {m : Msg} {e : Int} (h0 : 0 ≤ e) (h1 : e ≤ b.length) (hp : M.putBody m = b.take e.toNat) (hm : M.msgOk m = true) : M.putMsg m = b ↔ M.getVar b e = (M.weakOf (b.take e.toNat), (b.length : Int), true) := by
  have hw := weakOf_range (b.take e.toNat)
  unfold M.putMsg
  rw [if_pos hm, hp, putVar_in hw.1 (by omega)]
  have hlen : (b.take e.toNat).length = e.toNat := by rw [List.length_take]; omega
  constructor
  · intro h
    have g := getVar_var (p := b.take e.toNat) (n := M.weakOf (b.take e.toNat)) [] hw.1 (by omega)
    rw [List.append_nil, h, hlen, show ((e.toNat : Nat) : Int) = e by omega] at g
    rw [g]
    refine Prod.ext rfl (Prod.ext ?_ rfl)
    have := congrArg List.length h
    rw [List.length_append, hlen] at this
    dsimp only; omega
  · intro h
    have p := getVar_put hb h
    rw [← p.2.2.2.2.2, Int.toNat_natCast, List.take_length]
theorem spec_GetMsg_eq {u : Nat} (hu : 1099511627776 ≤ u) {b : List Int} (hb : M.isBytes b) (hl : b.length ≤ 1048576) : spec_GetMsg u b = some (M.getMsg b) := by
  unfold spec_GetMsg M.getMsg spec_GetMsg_j1 spec_GetMsg_j2 spec_GetMsg_j3
  simp only [spec_GetVar_eq hu hb hl, Option.bind_some]
  rcases getVar_cases b 0 with ⟨k, a, h0⟩ | h0
  · rw [h0]
    have p := getVar_put hb h0
    have ha : b.take a.toNat = M.var 9 k := by rw [p.2.2.2.2.2]; rfl
    by_cases h4 : b.length ≤ 400
    · have h4' : ¬ ((b.length : Int) > 400) := by omega
      simp only [h4, h4', decide_true, decide_false, Bool.and_self, if_true, Bool.not_true, cond_false]
      obtain ⟨r, g1, g2⟩ := spec_body hu hb hl k a
      rw [g1]
      simp only [Option.bind_some]
      cases hr : M.read b k a with
      | none =>
        rw [hr] at g2
        rcases g2 with g2 | ⟨g2, g3⟩
        · rw [g2]; rfl
        · cases hf : r.2.2 with
          | false => rfl
          | true =>
            rw [spec_MsgOk_eq hu g2, g3]; rfl
      | some q =>
        obtain ⟨m, e⟩ := q
        rw [hr] at g2
        have w := puts_read hb ha m e hr
        unfold M.goodS at g2
        dsimp only at g2
        rw [g2]
        dsimp only
        rw [spec_MsgOk_eq hu w.1.sums]
        simp only [Bool.not_true, cond_false, Option.bind_some]
        cases hm : M.msgOk m with
        | false => rfl
        | true =>
          have hs := sum_ok hb w.2.1 w.2.2.1 w.2.2.2 hm
          obtain ⟨e, rfl⟩ := Int.eq_ofNat_of_zero_le w.2.1
          simp only [Bool.not_true, cond_false, Int.toNat_natCast] at hs ⊢
          rw [show (0 : Int) = ((0 : Nat) : Int) by rfl, sliceOK_nat (by omega) (by have := w.2.2.1; omega)]
          simp only [Option.bind_some, Int.toNat_natCast, List.drop_zero]
          rw [spec_WeakOf_eq hu (fun x hx => hb x (List.mem_of_mem_take hx)) (by rw [List.length_take]; omega)]
          simp only [Option.bind_some]
          rcases getVar_cases b e with ⟨v, e', h5⟩ | h5
          · rw [h5] at hs ⊢
            simp only [Bool.not_true, cond_false]
            by_cases he : e' = (b.length : Int)
            · by_cases hv : v = M.weakOf (b.take e)
              · have : M.putMsg m = b := hs.2 (by rw [he, hv])
                simp [he, hv, this]
              · have : ¬ M.putMsg m = b := fun h => hv (by have := hs.1 h; simp only [Prod.mk.injEq] at this; exact this.1)
                have hv' : (v != M.weakOf (b.take e)) = true := by simpa using hv
                simp [he, this, M.noMsg]
                rw [hv']; rfl
            · have : ¬ M.putMsg m = b := fun h => he (by have := hs.1 h; simp only [Prod.mk.injEq] at this; exact this.2.1)
              have he' : (e' != (b.length : Int)) = true := by simpa using he
              simp [this, M.noMsg]
              rw [he']; rfl
          · rw [h5] at hs ⊢
            have : ¬ M.putMsg m = b := fun h => by have := hs.1 h; simp at this
            simp [this, M.noMsg]
    · have h4' : (b.length : Int) > 400 := by omega
      simp [h4, h4', M.noMsg]
  · rw [h0]; simp [M.noMsg]
def M.cnt : Nat → Nat → Nat
  | 0, _ => 0
  | n + 1, x => x % 2 + M.cnt n (x / 2)
theorem cnt_split : ∀ (k n a B : Nat), a < 2 ^ k → M.cnt (k + n) (a + 2 ^ k * B) = M.cnt k a + M.cnt n B
  | 0, n, a, B, h => by
    obtain rfl : a = 0 := by simpa using h
    simp [M.cnt]
  | k + 1, n, a, B, h => by
    rw [Nat.pow_succ] at h
    have e : (a + 2 ^ (k + 1) * B) / 2 = a / 2 + 2 ^ k * B := by
      rw [Nat.pow_succ, show 2 ^ k * 2 * B = 2 * (2 ^ k * B) by rw [Nat.mul_comm (2 ^ k) 2, Nat.mul_assoc]]
      omega
    have e2 : (a + 2 ^ (k + 1) * B) % 2 = a % 2 := by
      rw [Nat.pow_succ, show 2 ^ k * 2 * B = 2 * (2 ^ k * B) by rw [Nat.mul_comm (2 ^ k) 2, Nat.mul_assoc]]
      omega
    rw [show k + 1 + n = (k + n) + 1 by omega]
    simp only [M.cnt]
    rw [e, e2, cnt_split k n (a / 2) B (by omega)]
    omega
def M.mk (c : Nat) : Nat → Nat
  | 0 => 0
  | n + 1 => c + 256 * M.mk c n
theorem and_split {a b c d : Nat} (ha : a < 256) (hc : c < 256) : (a + 256 * b) &&& (c + 256 * d) = (a &&& c) + 256 * (b &&& d) := by
  have h1 : (a &&& c) < 2 ^ 8 := Nat.and_lt_two_pow _ hc
  rw [Nat.add_comm a, Nat.add_comm c, Nat.add_comm (a &&& c), show (256 : Nat) = 2 ^ 8 by rfl]
  apply Nat.eq_of_testBit_eq
  intro i
  rw [Nat.testBit_and, Nat.testBit_two_pow_mul_add _ ha, Nat.testBit_two_pow_mul_add _ hc, Nat.testBit_two_pow_mul_add _ h1]
  split <;> rw [Nat.testBit_and]
def M.s1 (n x : Nat) : Nat := ((x / 2) &&& M.mk 85 n) + (x &&& M.mk 85 n)
def M.s2 (n b : Nat) : Nat := ((b / 4) &&& M.mk 51 n) + (b &&& M.mk 51 n)
def M.s3 (n c : Nat) : Nat := ((c / 16) + c) &&& M.mk 15 n
theorem s1_at : ∀ e : Fin 2, ∀ a : Fin 256, ((a.val / 2 + 128 * e.val) &&& 85) + (a.val &&& 85) = M.s1 1 a.val ∧ M.s1 1 a.val < 256 := by decide +kernel
theorem s2_at : ∀ e : Fin 4, ∀ a : Fin 256, ((a.val / 4 + 64 * e.val) &&& 51) + (a.val &&& 51) = M.s2 1 a.val ∧ M.s2 1 a.val ≤ 102 ∧ M.s2 1 a.val % 16 ≤ 6 := by decide +kernel
theorem s3_at : ∀ e : Fin 7, ∀ a : Fin 103, ((a.val / 16 + 16 * e.val + a.val) &&& 15) = M.s3 1 a.val := by decide +kernel
theorem s_all : ∀ a : Fin 256, M.s3 1 (M.s2 1 (M.s1 1 a.val)) = M.cnt 8 a.val := by decide +kernel
theorem s1_split {a B n : Nat} (ha : a < 256) : M.s1 (n + 1) (a + 256 * B) = M.s1 1 a + 256 * M.s1 n B := by
  have h := (s1_at ⟨B % 2, by omega⟩ ⟨a, ha⟩).1
  simp only at h
  unfold M.s1
  rw [show (a + 256 * B) / 2 = (a / 2 + 128 * (B % 2)) + 256 * (B / 2) by omega]
  simp only [M.mk]
  rw [and_split (by omega) (by omega), and_split ha (by omega)]
  unfold M.s1 at h
  simp only [M.mk] at h
  omega
theorem s2_split {a B n : Nat} (ha : a < 256) : M.s2 (n + 1) (a + 256 * B) = M.s2 1 a + 256 * M.s2 n B := by
  have h := (s2_at ⟨B % 4, by omega⟩ ⟨a, ha⟩).1
  simp only at h
  unfold M.s2
  rw [show (a + 256 * B) / 4 = (a / 4 + 64 * (B % 4)) + 256 * (B / 4) by omega]
  simp only [M.mk]
  rw [and_split (by omega) (by omega), and_split ha (by omega)]
  unfold M.s2 at h
  simp only [M.mk] at h
  omega
theorem s3_split {a B n : Nat} (ha : a ≤ 102) (hB : B % 16 ≤ 6) : M.s3 (n + 1) (a + 256 * B) = M.s3 1 a + 256 * M.s3 n B := by
  have h := s3_at ⟨B % 16, by omega⟩ ⟨a, by omega⟩
  simp only at h
  unfold M.s3
  rw [show (a + 256 * B) / 16 + (a + 256 * B) = (a / 16 + 16 * (B % 16) + a) + 256 * (B / 16 + B) by omega]
  simp only [M.mk]
  rw [and_split (by omega) (by omega)]
  unfold M.s3 at h
  simp only [M.mk] at h
  omega
theorem s1_lt {a : Nat} (h : a < 256) : M.s1 1 a < 256 := (s1_at 0 ⟨a, h⟩).2
theorem s2_lt {a : Nat} (h : a < 256) : M.s2 1 a ≤ 102 ∧ M.s2 1 a % 16 ≤ 6 := (s2_at 0 ⟨a, h⟩).2
theorem s2_low {n B : Nat} : M.s2 n (M.s1 n B) % 16 ≤ 6 := by
  cases n with
  | zero => simp [M.s2, M.mk]
  | succ n =>
    have hl : B % 256 < 256 := by omega
    have e : B = B % 256 + 256 * (B / 256) := by omega
    rw [e, s1_split hl, s2_split (s1_lt hl)]
    have := (s2_lt (s1_lt hl)).2
    omega
theorem s_split {a B n : Nat} (ha : a < 256) : M.s3 (n + 1) (M.s2 (n + 1) (M.s1 (n + 1) (a + 256 * B))) = M.cnt 8 a + 256 * M.s3 n (M.s2 n (M.s1 n B)) := by
  have h1 := (s1_at 0 ⟨a, ha⟩).2
  have h2 := (s2_at 0 ⟨M.s1 1 a, h1⟩).2.1
  rw [s1_split ha, s2_split h1, s3_split h2 s2_low, s_all ⟨a, ha⟩]
theorem cnt8_le {a : Nat} (ha : a < 256) : M.cnt 8 a ≤ 8 := by
  have : ∀ a : Fin 256, M.cnt 8 a.val ≤ 8 := by decide +kernel
  exact this ⟨a, ha⟩
theorem s_five {x : Nat} (hx : x < 1099511627776) : ∃ p0 p1 p2 p3 p4 : Nat, p0 ≤ 8 ∧ p1 ≤ 8 ∧ p2 ≤ 8 ∧ p3 ≤ 8 ∧ p4 ≤ 8 ∧ M.s3 8 (M.s2 8 (M.s1 8 x)) = p0 + 256 * (p1 + 256 * (p2 + 256 * (p3 + 256 * p4))) ∧ M.cnt 40 x = p0 + p1 + p2 + p3 + p4 := by
  have e : x = x % 256 + 256 * (x / 256 % 256 + 256 * (x / 65536 % 256 + 256 * (x / 16777216 % 256 + 256 * (x / 4294967296 % 256 + 256 * 0)))) := by omega
  refine ⟨M.cnt 8 (x % 256), M.cnt 8 (x / 256 % 256), M.cnt 8 (x / 65536 % 256), M.cnt 8 (x / 16777216 % 256), M.cnt 8 (x / 4294967296 % 256), cnt8_le (by omega), cnt8_le (by omega), cnt8_le (by omega), cnt8_le (by omega), cnt8_le (by omega), ?_, ?_⟩
  · conv => lhs; rw [e]
    rw [s_split (by omega), s_split (by omega), s_split (by omega), s_split (by omega), s_split (by omega)]
    have : M.s3 3 (M.s2 3 (M.s1 3 0)) = 0 := by decide +kernel
    omega
  · have c : ∀ (n a B : Nat), a < 256 → M.cnt (8 + n) (a + 256 * B) = M.cnt 8 a + M.cnt n B := fun n a B h => cnt_split 8 n a B h
    conv => lhs; rw [e]
    rw [show (40 : Nat) = 8 + (8 + (8 + (8 + (8 + 0)))) by rfl, c _ _ _ (by omega), c _ _ _ (by omega), c _ _ _ (by omega), c _ _ _ (by omega), c _ _ _ (by omega)]
    simp only [M.cnt]
    omega
theorem u64_nat {n : Nat} (h : n < 18446744073709551616) : IntKind.wrap .u64 (n : Int) = (n : Int) := by
  show (n : Int) % 18446744073709551616 = (n : Int)
  omega
theorem bAdd_u64 {a b : Nat} (h : a + b < 18446744073709551616) : bAdd .u64 (a : Int) (b : Int) = ((a + b : Nat) : Int) := by
  unfold bAdd
  rw [← Int.natCast_add, u64_nat h]
theorem bShr_u64 {a i : Nat} (h : i ≤ 64) : bShr .u64 (a : Int) (i : Int) = ((a / 2 ^ i : Nat) : Int) := by
  unfold bShr
  rw [Int.toNat_natCast, show min i IntKind.u64.bits = i from Nat.min_eq_left h, Int.fdiv_eq_ediv_of_nonneg _ (by have : (0 : Int) < 2 ^ i := Int.pow_pos (by omega); omega)]
  norm_cast
theorem bAnd_u64 {a b : Nat} (h1 : a < 18446744073709551616) (h2 : b < 18446744073709551616) : bAnd .u64 (a : Int) (b : Int) = ((a &&& b : Nat) : Int) := by
  unfold bAnd
  have e : ∀ n : Nat, n < 18446744073709551616 → (BitVec.ofInt IntKind.u64.bits (n : Int)).toNat = n := fun n h => by
    rw [BitVec.ofInt_natCast]
    show (BitVec.ofNat 64 n).toNat = n
    rw [BitVec.toNat_ofNat]; omega
  rw [BitVec.toNat_and, e a h1, e b h2, u64_nat]
  exact Nat.lt_of_le_of_lt Nat.and_le_left h1
theorem sh_u64 (a i : Nat) (h : i ≤ 64) (j : Int) (hj : j = (i : Int)) : bShr .u64 (a : Int) j = ((a / 2 ^ i : Nat) : Int) := by subst hj; exact bShr_u64 h
theorem mk_85 : M.mk 85 8 = 6148914691236517205 := by decide +kernel
theorem mk_51 : M.mk 51 8 = 3689348814741910323 := by decide +kernel
theorem mk_15 : M.mk 15 8 = 1085102592571150095 := by decide +kernel
theorem ones_fin {p0 p1 p2 p3 p4 y z v : Nat} (h0 : p0 ≤ 8) (h1 : p1 ≤ 8) (h2 : p2 ≤ 8) (h3 : p3 ≤ 8) (h4 : p4 ≤ 8) (hy : p0 + 256 * (p1 + 256 * (p2 + 256 * (p3 + 256 * p4))) = y) (hz : y + y / 256 = z) (hv : z + z / 65536 = v) :
    y ≤ 68719476736 ∧ z ≤ 68719476736 ∧ v + v / 4294967296 ≤ 68719476736 ∧ (v + v / 4294967296) % 128 = p0 + p1 + p2 + p3 + p4 := by
  have e1 : y / 256 = p1 + 256 * (p2 + 256 * (p3 + 256 * p4)) := by omega
  have e2 : z = (p0 + p1) + 256 * (p1 + p2) + 65536 * ((p2 + p3) + 256 * (p3 + p4) + 65536 * p4) := by omega
  have e3 : z / 65536 = (p2 + p3) + 256 * (p3 + p4) + 65536 * p4 := by omega
  have e4 : v = (p0 + p1 + p2 + p3) + 256 * (p1 + p2 + p3 + p4) + 65536 * (p2 + p3 + p4 + 256 * (p3 + p4)) + 4294967296 * p4 := by omega
  have e5 : v / 4294967296 = p4 := by omega
  omega
theorem s1_8 (x : Nat) : M.s1 8 x = (x / 2 &&& 6148914691236517205) + (x &&& 6148914691236517205) := by unfold M.s1; rw [mk_85]
theorem s2_8 (x : Nat) : M.s2 8 x = (x / 4 &&& 3689348814741910323) + (x &&& 3689348814741910323) := by unfold M.s2; rw [mk_51]
theorem s3_8 (x : Nat) : M.s3 8 x = (x / 16 + x) &&& 1085102592571150095 := by unfold M.s3; rw [mk_15]
theorem one_b (x : Nat) (hx : x < 18446744073709551616) : bAdd .u64 (bAnd .u64 (bShr .u64 (x : Int) 1) 6148914691236517205) (bAnd .u64 (x : Int) 6148914691236517205) = ((M.s1 8 x : Nat) : Int) ∧ M.s1 8 x ≤ 12297829382473034410 := by
  have h1 : (x / 2 &&& 6148914691236517205) ≤ 6148914691236517205 := Nat.and_le_right
  have h2 : (x &&& 6148914691236517205) ≤ 6148914691236517205 := Nat.and_le_right
  have m : (6148914691236517205 : Int) = ((6148914691236517205 : Nat) : Int) := rfl
  rw [s1_8, m, sh_u64 x 1 (by omega) 1 rfl, show 2 ^ 1 = 2 by rfl, bAnd_u64 (by omega) (by omega), bAnd_u64 hx (by omega), bAdd_u64 (by omega)]
  exact ⟨rfl, by omega⟩
theorem one_c (x : Nat) (hx : x < 18446744073709551616) : bAdd .u64 (bAnd .u64 (bShr .u64 (x : Int) 2) 3689348814741910323) (bAnd .u64 (x : Int) 3689348814741910323) = ((M.s2 8 x : Nat) : Int) ∧ M.s2 8 x ≤ 7378697629483820646 := by
  have h1 : (x / 4 &&& 3689348814741910323) ≤ 3689348814741910323 := Nat.and_le_right
  have h2 : (x &&& 3689348814741910323) ≤ 3689348814741910323 := Nat.and_le_right
  have m : (3689348814741910323 : Int) = ((3689348814741910323 : Nat) : Int) := rfl
  rw [s2_8, m, sh_u64 x 2 (by omega) 2 rfl, show 2 ^ 2 = 4 by rfl, bAnd_u64 (by omega) (by omega), bAnd_u64 hx (by omega), bAdd_u64 (by omega)]
  exact ⟨rfl, by omega⟩
theorem one_d (x : Nat) (hx : x ≤ 7378697629483820646) : bAnd .u64 (bAdd .u64 (bShr .u64 (x : Int) 4) (x : Int)) 1085102592571150095 = ((M.s3 8 x : Nat) : Int) := by
  have m : (1085102592571150095 : Int) = ((1085102592571150095 : Nat) : Int) := rfl
  rw [s3_8, m, sh_u64 x 4 (by omega) 4 rfl, show 2 ^ 4 = 16 by rfl, bAdd_u64 (by omega), bAnd_u64 (by omega) (by omega)]
theorem one_e (y i p : Nat) (h : i ≤ 64) (hp : p = 2 ^ i) (hb : y + y / p < 18446744073709551616) (j : Int) (hj : j = (i : Int)) : bAdd .u64 (y : Int) (bShr .u64 (y : Int) j) = ((y + y / p : Nat) : Int) := by
  rw [sh_u64 y i h j hj, ← hp, bAdd_u64 hb]
theorem ones_eq {u x : Nat} (hx : x < 1099511627776) : bits_OnesCount64 u (x : Int) = some ((M.cnt 40 x : Nat) : Int) := by
  obtain ⟨hB, b1⟩ := one_b x (Nat.lt_trans hx (by decide))
  obtain ⟨hC, b2⟩ := one_c (M.s1 8 x) (Nat.lt_of_le_of_lt b1 (by decide))
  have hD := one_d (M.s2 8 (M.s1 8 x)) b2
  obtain ⟨p0, p1, p2, p3, p4, h0, h1, h2, h3, h4, hs, hc⟩ := s_five hx
  unfold bits_OnesCount64
  rw [hB, hC, hD, hs, hc]
  clear hB hC hD hs hc b1 b2
  generalize hy : p0 + 256 * (p1 + 256 * (p2 + 256 * (p3 + 256 * p4))) = y
  generalize hz : y + y / 256 = z
  generalize hv : z + z / 65536 = v
  obtain ⟨f1, f2, f3, f4⟩ := ones_fin h0 h1 h2 h3 h4 hy hz hv
  clear hy
  rw [one_e y 8 256 (by omega) rfl (by omega) 8 rfl, hz, one_e z 16 65536 (by omega) rfl (by omega) 16 rfl, hv, one_e v 32 4294967296 (by omega) rfl (by omega) 32 rfl, wrap_i64 (by omega) (by omega), bAnd127]
  rw [← f4]
  congr 1
theorem impl_CountSet_eq {u : Nat} (s : Int) : impl_CountSet u s = some (if M.setOk s = true then ((M.cnt 40 s.toNat : Nat) : Int) else 0) := by
  unfold impl_CountSet
  rw [impl_SetOk_eq, Option.bind_some]
  cases h : M.setOk s with
  | false => rfl
  | true =>
    have h1 := within_t h
    obtain ⟨x, rfl⟩ : ∃ x : Nat, s = x := ⟨s.toNat, by omega⟩
    rw [u64_nat (by omega), ones_eq (by omega)]
    rfl
theorem spec_count_walk {u : Nat} {s : Int} (h : M.setOk s = true) : ∀ (n i : Nat) (a : Int), i + n ≤ 40 → 0 ≤ a → a ≤ i → walk (spec_CountSet_l2_f u s) (spec_CountSet_l2_b u s) n i a = some (a + ((M.cnt n (s.toNat / 2 ^ i) : Nat) : Int))
  | 0, i, a, _, _, _ => by simp [walk, spec_CountSet_l2_f, spec_CountSet_j1, M.cnt]
  | n + 1, i, a, hi, h0, h1 => by
    have hp : M.isPlace (i : Int) = true := by simp [M.isPlace, M.within]; omega
    have e : M.inSet s (i : Int) = decide (s.toNat / 2 ^ i % 2 = 1) := by
      unfold M.inSet
      rw [h, hp, Int.toNat_natCast, Nat.testBit_eq_decide_div_mod_eq]
      rfl
    have hd : s.toNat / 2 ^ (i + 1) = s.toNat / 2 ^ i / 2 := by rw [Nat.pow_succ, Nat.div_div_eq_div_mul]
    simp only [walk, spec_CountSet_l2_b, spec_InSet_eq, spec_CountSet_j3, Option.bind_some, e, M.cnt]
    by_cases hb : s.toNat / 2 ^ i % 2 = 1
    · rw [decide_eq_true hb, cond_true, bAdd_i64 (by omega) (by omega), spec_count_walk h n (i + 1) (a + 1) (by omega) (by omega) (by omega), hd, hb]
      congr 1; omega
    · rw [decide_eq_false hb, cond_false, spec_count_walk h n (i + 1) a (by omega) (by omega) (by omega), hd, show s.toNat / 2 ^ i % 2 = 0 by omega]
      congr 1; omega
theorem spec_count_no {u : Nat} {s : Int} (h : M.setOk s = false) : ∀ (n i : Nat) (a : Int), walk (spec_CountSet_l2_f u s) (spec_CountSet_l2_b u s) n i a = some a
  | 0, i, a => by simp [walk, spec_CountSet_l2_f, spec_CountSet_j1]
  | n + 1, i, a => by
    have e : M.inSet s (i : Int) = false := by unfold M.inSet; rw [h]; rfl
    simp only [walk, spec_CountSet_l2_b, spec_InSet_eq, spec_CountSet_j3, Option.bind_some, e, cond_false]
    exact spec_count_no h n (i + 1) a
theorem spec_CountSet_eq {u : Nat} (hu : 1099511627776 ≤ u) (s : Int) : spec_CountSet u s = some (if M.setOk s = true then ((M.cnt 40 s.toNat : Nat) : Int) else 0) := by
  unfold spec_CountSet
  rw [spec_CountSet_l2_w u s 0 u (by omega) (by omega), show Int.toNat 40 = 40 by rfl]
  cases h : M.setOk s with
  | false => rw [spec_count_no h]; rfl
  | true => rw [spec_count_walk h 40 0 0 (by omega) (by omega) (by omega)]; simp
theorem cnt_le : ∀ (n x : Nat), M.cnt n x ≤ n
  | 0, _ => Nat.le_refl _
  | n + 1, x => by
    have := cnt_le n (x / 2)
    simp only [M.cnt]; omega
theorem getMsg_ok {b : List Int} (hb : M.isBytes b) (h : (M.getMsg b).2 = true) : M.MsgWf (M.getMsg b).1 ∧ M.msgOk (M.getMsg b).1 = true := by
  unfold M.getMsg at h ⊢
  rcases getVar_cases b 0 with ⟨k, a, h0⟩ | h0
  · rw [h0] at h ⊢
    have p := getVar_put hb h0
    have ha : b.take a.toNat = M.var 9 k := by rw [p.2.2.2.2.2]; rfl
    by_cases h4 : b.length ≤ 400
    · simp only [h4, decide_true, Bool.and_self, if_true] at h ⊢
      cases hr : M.read b k a with
      | none => rw [hr] at h; cases h
      | some q =>
        obtain ⟨m, e⟩ := q
        rw [hr] at h
        simp only at h ⊢
        by_cases hm : (M.msgOk m && decide (M.putMsg m = b)) = true
        · rw [if_pos hm] at h ⊢
          simp only [Bool.and_eq_true] at hm
          exact ⟨(puts_read hb ha m e hr).1, hm.1⟩
        · rw [if_neg hm] at h; cases h
    · simp only [h4, decide_false, Bool.and_false, Bool.false_eq_true, if_false] at h; cases h
  · rw [h0] at h; cases h
theorem chk_of {p : Prop} [Decidable p] (h : p) : chk (decide p) = some () := by rw [decide_eq_true h]; rfl
theorem bindchk {p : Prop} [Decidable p] {N : Nat} {k : Unit → Option ByteArray} (h : p) (hk : ∃ v, k () = some v ∧ v.size ≤ N) : ∃ v, (chk (decide p)).bind k = some v ∧ v.size ≤ N := by
  rw [chk_of h]; exact hk
def M.cs (s : Int) : Int := if M.setOk s = true then ((M.cnt 40 s.toNat : Nat) : Int) else 0
theorem cs_b (s : Int) : 0 ≤ M.cs s ∧ M.cs s ≤ 40 := by
  unfold M.cs
  have := cnt_le 40 s.toNat
  split <;> omega
theorem spec_CountSet_cs {u : Nat} (hu : 1099511627776 ≤ u) (s : Int) : spec_CountSet u s = some (M.cs s) := spec_CountSet_eq hu s
theorem impl_CountSet_cs {u : Nat} (s : Int) : impl_CountSet u s = some (M.cs s) := impl_CountSet_eq s
theorem spec_num {u : Nat} (hu : 1099511627776 ≤ u) {n : Int} (h : -1000001 ≤ n ∧ n ≤ 1000001) : spec_NumText u n = some (M.num n) := spec_NumText_eq hu (by omega) (by omega)
theorem impl_num {u : Nat} {n : Int} (h : -1000001 ≤ n ∧ n ≤ 1000001) : impl_NumText u n = some (M.num n) := impl_NumText_eq (by omega) (by omega)
theorem num_21 {n : Int} (h : -1000001 ≤ n ∧ n ≤ 1000001) : (M.num n).size ≤ 21 := num_size (by omega) (by omega)
theorem sz5 (a b c d e : UInt8) : (ByteArray.mk #[a, b, c, d, e]).size = 5 := rfl
theorem sz4 (a b c d : UInt8) : (ByteArray.mk #[a, b, c, d]).size = 4 := rfl
theorem sz1 (a : UInt8) : (ByteArray.mk #[a]).size = 1 := rfl
theorem MsgText_eq {u : Nat} (hu : 1099511627776 ≤ u) {m : Msg} (hs : m.fMan.fSums.length ≤ 1048576) (ok : M.msgOk m = true) : ∃ v, (spec_MsgText u m = some v ∧ impl_MsgText u m = some v) ∧ v.size ≤ 200 := by
  unfold spec_MsgText impl_MsgText
  rw [spec_MsgOk_eq hu hs, impl_MsgOk_eq hu hs, ok]
  simp only [Option.bind_some, Bool.not_true, cond_false]
  unfold M.msgOk at ok
  by_cases h1 : m.fKind = 1
  · rw [if_pos h1] at ok
    simp only [Bool.and_eq_true] at ok
    have hg : -1000001 ≤ m.fMan.fGen ∧ m.fMan.fGen ≤ 1000001 := by
      have := ok.1.2
      unfold M.manOk at this
      by_cases hz : m.fMan.fGen = 0
      · omega
      · rw [if_neg hz] at this
        simp only [Bool.and_eq_true] at this
        have := within_t this.1.1.1
        omega
    have b1 : (m.fKind == 1) = true := by simpa using h1
    have z1 := num_21 hg
    simp only [b1, cond_true, spec_num hu hg, impl_num hg, Option.bind_some, and_self]
    refine bindchk (by simp only [ByteArray.size_append, sz4]; omega) ⟨_, rfl, by simp only [ByteArray.size_append, sz4]; omega⟩
  rw [if_neg h1] at ok
  have b1 : (m.fKind == 1) = false := by simpa using h1
  by_cases h2 : m.fKind = 2
  · rw [if_pos h2] at ok
    simp only [Bool.and_eq_true] at ok
    have b2 : (m.fKind == 2) = true := by simpa using h2
    have hg : -1000001 ≤ m.fGen ∧ m.fGen ≤ 1000001 := by have := within_t ok.1.1.1.1.1; omega
    have hw := cs_b m.fWant
    have hd := cs_b m.fDone
    have hw' : -1000001 ≤ M.cs m.fWant ∧ M.cs m.fWant ≤ 1000001 := by omega
    have hd' : -1000001 ≤ M.cs m.fDone ∧ M.cs m.fDone ≤ 1000001 := by omega
    have z1 := num_21 hg
    have z2 := num_21 hw'
    have z3 := num_21 hd'
    simp only [b1, b2, cond_true, cond_false, spec_num hu hg, impl_num hg, spec_CountSet_cs hu, impl_CountSet_cs, spec_num hu hw', impl_num hw', spec_num hu hd', impl_num hd', Option.bind_some, and_self]
    refine bindchk (by simp only [ByteArray.size_append, sz5, sz1]; omega) ?_
    refine bindchk (by simp only [ByteArray.size_append, sz5, sz1]; omega) ?_
    refine bindchk (by simp only [ByteArray.size_append, sz5, sz1]; omega) ?_
    refine bindchk (by simp only [ByteArray.size_append, sz5, sz1]; omega) ?_
    refine bindchk (by simp only [ByteArray.size_append, sz5, sz1]; omega) ⟨_, rfl, by simp only [ByteArray.size_append, sz5, sz1]; omega⟩
  rw [if_neg h2] at ok
  have b2 : (m.fKind == 2) = false := by simpa using h2
  by_cases h3 : m.fKind = 3
  · rw [if_pos h3] at ok
    simp only [Bool.and_eq_true] at ok
    have b3 : (m.fKind == 3) = true := by simpa using h3
    have hg : -1000001 ≤ m.fGen ∧ m.fGen ≤ 1000001 := by have := within_t ok.1.1.1.1.1; omega
    have hi : -1000001 ≤ m.fI ∧ m.fI ≤ 1000001 := by have := within_t ok.1.2; omega
    have z1 := num_21 hg
    have z2 := num_21 hi
    simp only [b1, b2, b3, cond_true, cond_false, spec_num hu hg, impl_num hg, spec_num hu hi, impl_num hi, Option.bind_some, and_self]
    refine bindchk (by simp only [ByteArray.size_append, sz5, sz1]; omega) ?_
    refine bindchk (by simp only [ByteArray.size_append, sz5, sz1]; omega) ?_
    refine bindchk (by simp only [ByteArray.size_append, sz5, sz1]; omega) ⟨_, rfl, by simp only [ByteArray.size_append, sz5, sz1]; omega⟩
  rw [if_neg h3] at ok
  have b3 : (m.fKind == 3) = false := by simpa using h3
  by_cases h4 : m.fKind = 4
  · rw [if_pos h4] at ok
    simp only [Bool.and_eq_true] at ok
    have hg : -1000001 ≤ m.fGen ∧ m.fGen ≤ 1000001 := by have := within_t ok.1.1; omega
    have z1 := num_21 hg
    simp only [b1, b2, b3, cond_true, cond_false, spec_num hu hg, impl_num hg, Option.bind_some, and_self]
    refine bindchk (by simp only [ByteArray.size_append, sz5, sz1]; omega) ⟨_, rfl, by simp only [ByteArray.size_append, sz5, sz1]; omega⟩
  · rw [if_neg h4] at ok; cases ok
def M.pkText (a b : ByteArray) (t : ByteArray) : ByteArray := (((a ++ (ByteArray.mk #[62])) ++ b) ++ (ByteArray.mk #[32])) ++ t
theorem PacketText_eq {u : Nat} (hu : 1099511627776 ≤ u) {p0 : Packet} (w0 : Packet.wf p0) (b0 : Packet.bulk p0 ≤ 1048576) : ∃ v, (spec_PacketText u p0 = some v ∧ impl_PacketText u p0 = some v) ∧ v.size ≤ 300 := by
  obtain ⟨hf, ht, hB, _⟩ := w0
  obtain ⟨f0, f1⟩ := i64_b hf
  obtain ⟨t0, t1⟩ := i64_b ht
  have hb : M.isBytes p0.fB := fun x hx => hB.2 x hx
  have hl : p0.fB.length ≤ 1048576 := b0
  have z1 := num_size f0 f1
  have z2 := num_size t0 t1
  unfold spec_PacketText impl_PacketText
  simp only [spec_NumText_eq hu f0 f1, spec_NumText_eq hu t0 t1, spec_GetMsg_eq hu hb hl, impl_GetMsg_eq hu hb hl, Option.bind_some]
  have c1 : chk (decide ((M.num p0.fFrom).size + (ByteArray.mk #[62]).size ≤ 9223372036854775807)) = some () := chk_of (by rw [sz1]; omega)
  have c2 : chk (decide (((M.num p0.fFrom) ++ (ByteArray.mk #[62])).size + (M.num p0.fTo).size ≤ 9223372036854775807)) = some () := chk_of (by simp only [ByteArray.size_append, sz1]; omega)
  have c3 : chk (decide ((((M.num p0.fFrom) ++ (ByteArray.mk #[62])) ++ (M.num p0.fTo)).size + (ByteArray.mk #[32]).size ≤ 9223372036854775807)) = some () := chk_of (by simp only [ByteArray.size_append, sz1]; omega)
  have c4 : ∀ t : ByteArray, t.size ≤ 200 → chk (decide (((((M.num p0.fFrom) ++ (ByteArray.mk #[62])) ++ (M.num p0.fTo)) ++ (ByteArray.mk #[32])).size + t.size ≤ 9223372036854775807)) = some () := fun t ht => chk_of (by simp only [ByteArray.size_append, sz1]; omega)
  have hj : ∀ t : ByteArray, t.size ≤ 200 → impl_PacketText_j1 u t p0 = some (M.pkText (M.num p0.fFrom) (M.num p0.fTo) t) := fun t ht => by
    unfold impl_PacketText_j1
    simp only [impl_NumText_eq f0 f1, impl_NumText_eq t0 t1, Option.bind_some, c1, c2, c3, c4 t ht]
    rfl
  have hsz : ∀ t : ByteArray, t.size ≤ 200 → (M.pkText (M.num p0.fFrom) (M.num p0.fTo) t).size ≤ 300 := fun t ht => by
    unfold M.pkText
    simp only [ByteArray.size_append, sz1]; omega
  cases ho : (M.getMsg p0.fB).2 with
  | false =>
    have hq : (ByteArray.mk #[63]).size ≤ 200 := by rw [sz1]; omega
    simp only [c1, c2, c3, c4 _ hq, hj _ hq, Option.bind_some, Bool.not_false, cond_true, cond_false]
    exact ⟨_, ⟨rfl, rfl⟩, hsz _ hq⟩
  | true =>
    obtain ⟨hw, hok⟩ := getMsg_ok hb ho
    obtain ⟨v, ⟨e1, e2⟩, e3⟩ := MsgText_eq hu hw.sums hok
    simp only [c1, c2, c3, c4 _ e3, hj _ e3, e1, e2, Option.bind_some, Bool.not_true, cond_true, cond_false]
    exact ⟨_, ⟨rfl, rfl⟩, hsz _ e3⟩
def M.acc (sep : ByteArray) : Nat → ByteArray → List ByteArray → ByteArray
  | _, s, [] => s
  | i, s, t :: ts => M.acc sep (i + 1) ((if i > 0 then s ++ sep else s) ++ t) ts
def M.jn (sep : ByteArray) (ts : List ByteArray) : ByteArray := ⟨(Lib.join (ts.map (·.data.toList)) sep.data.toList).toArray⟩
theorem acc_pos (sep : ByteArray) : ∀ (ts : List ByteArray) (i : Nat) (s : ByteArray), (M.acc sep (i + 1) s ts).data.toList = s.data.toList ++ Lib.joinTail sep.data.toList (ts.map (·.data.toList))
  | [], i, s => by simp [M.acc, Lib.joinTail]
  | t :: ts, i, s => by
    rw [M.acc, acc_pos sep ts, if_pos (by omega), ba_app, ba_app]
    simp [Lib.joinTail]
theorem acc_jn (sep : ByteArray) (ts : List ByteArray) : M.acc sep 0 (ByteArray.mk #[]) ts = M.jn sep ts := by
  refine ba_ext ?_
  unfold M.jn
  cases ts with
  | nil => rfl
  | cons t ts =>
    rw [M.acc, acc_pos, if_neg (by omega), ba_app, List.map_cons, Lib.join_cons]
    simp
theorem sep_size {sep s : ByteArray} {i : Nat} (hs : sep.size ≤ 2) : (if i > 0 then s ++ sep else s).size ≤ s.size + 2 := by
  split
  · rw [ByteArray.size_append]; omega
  · omega
theorem acc_size (sep : ByteArray) {B : Nat} (hs : sep.size ≤ 2) : ∀ (ts : List ByteArray) (i : Nat) (s : ByteArray), (∀ t ∈ ts, t.size ≤ B) → (M.acc sep i s ts).size ≤ s.size + ts.length * (B + 2)
  | [], i, s, _ => by simp [M.acc]
  | t :: ts, i, s, h => by
    have h1 := acc_size sep hs ts (i + 1) ((if i > 0 then s ++ sep else s) ++ t) (fun t ht => h t (by simp [ht]))
    have h2 := h t (by simp)
    rw [ByteArray.size_append] at h1
    have h3 : (if i > 0 then s ++ sep else s).size ≤ s.size + 2 := sep_size hs
    rw [M.acc, List.length_cons, Nat.add_mul]
    omega
theorem jn_size {sep : ByteArray} {B : Nat} (hs : sep.size ≤ 2) {ts : List ByteArray} (h : ∀ t ∈ ts, t.size ≤ B) : (M.jn sep ts).size ≤ ts.length * (B + 2) := by
  rw [← acc_jn]
  have := acc_size sep hs ts 0 (ByteArray.mk #[]) h
  rw [show (ByteArray.mk #[]).size = 0 by rfl] at this
  omega
theorem join_eq {u : Nat} {sep : ByteArray} {B : Nat} (hs : sep.size ≤ 2) {ts : List ByteArray} (h : ∀ t ∈ ts, t.size ≤ B) (hl : ts.length ≤ 2097152) (hB : B ≤ 1000) : strings_Join u ts sep = some (M.jn sep ts) := by
  have h1 := jn_size hs h
  have h2 : ts.length * (B + 2) ≤ 2097152 * 1002 := Nat.mul_le_mul hl (by omega)
  have h3 : (Lib.join (ts.map (·.data.toList)) sep.data.toList).length ≤ 140737488355328 := by
    have e : (M.jn sep ts).size = (Lib.join (ts.map (·.data.toList)) sep.data.toList).length := by simp [M.jn, ByteArray.size]
    omega
  unfold strings_Join
  rw [decide_eq_true h3, decide_eq_true (show ts.length ≤ 140737488355328 by omega)]
  rfl
theorem walk_acc {ρ : Type} {f : ByteArray → Option ρ} {b : Nat → ByteArray → (ByteArray → Option ρ) → Option ρ} {ts : List ByteArray} {sep : ByteArray} {B : Nat} (hs : sep.size ≤ 2) (h : ∀ t ∈ ts, t.size ≤ B) (hl : ts.length ≤ 2097152) (hB : B ≤ 1000)
    (hb : ∀ (i : Nat) (s : ByteArray) (k : ByteArray → Option ρ) (t : ByteArray), ts[i]? = some t → t.size ≤ 1000 → s.size ≤ 4611686018427387904 → b i s k = k ((if i > 0 then s ++ sep else s) ++ t)) :
    ∀ (n i : Nat) (s : ByteArray), i + n = ts.length → s.size ≤ i * 1002 → walk f b n i s = f (M.acc sep i s (ts.drop i))
  | 0, i, s, hi, hz => by rw [List.drop_eq_nil_of_le (by omega)]; rfl
  | n + 1, i, s, hi, hz => by
    have hlt : i < ts.length := by omega
    have ht := h ts[i] (List.getElem_mem hlt)
    rw [List.drop_eq_getElem_cons hlt, walk, hb i s _ ts[i] (List.getElem?_eq_getElem hlt) (by omega) (by omega), M.acc]
    refine walk_acc hs h hl hB hb n (i + 1) _ (by omega) ?_
    rw [ByteArray.size_append]
    have h3 : (if i > 0 then s ++ sep else s).size ≤ s.size + 2 := sep_size hs
    omega
theorem wlist_map {α ρ : Type} {f : List ByteArray → Option ρ} {b : α → Nat → List ByteArray → (List ByteArray → Option ρ) → Option ρ} {g : α → ByteArray} : ∀ (l : List α) (i : Nat) (s : List ByteArray),
    (∀ y ∈ l, ∀ (i : Nat) (s : List ByteArray) (k : List ByteArray → Option ρ), s.length ≤ 2097152 → b y i s k = k (s ++ [g y])) → s.length + l.length ≤ 2097152 → wlist f b l i s = f (s ++ l.map g)
  | [], i, s, _, _ => by simp [wlist]
  | y :: l, i, s, h, hl => by
    rw [List.length_cons] at hl
    rw [wlist, h y (by simp) i s _ (by omega), wlist_map l (i + 1) _ (fun y hy => h y (by simp [hy])) (by rw [List.length_append, List.length_singleton]; omega)]
    simp
theorem chk_row (s : List ByteArray) (t : ByteArray) (h : s.length ≤ 2097152) : chk (decide ((s.length + ([t]).length) * 16 ≤ 140737488355328)) = some () := chk_of (by rw [List.length_singleton]; omega)
theorem sz2 (a b : UInt8) : (ByteArray.mk #[a, b]).size = 2 := rfl
def M.sep : ByteArray := ByteArray.mk #[59, 32]
theorem texts_le {α : Type} {l : List α} {g : α → ByteArray} {B : Nat} (h : ∀ x ∈ l, (g x).size ≤ B) : ∀ t ∈ l.map g, t.size ≤ B := fun t ht => by
  obtain ⟨x, hx, rfl⟩ := List.mem_map.1 ht
  exact h x hx
def M.pText (u : Nat) (x : Packet) : ByteArray := (spec_PacketText u x).getD (ByteArray.mk #[])
theorem pText_eq {u : Nat} (hu : 1099511627776 ≤ u) {w : World} (w0 : World.wf w) (b0 : World.bulk w ≤ 1048576) : ∀ x ∈ w.fNet, (spec_PacketText u x = some (M.pText u x) ∧ impl_PacketText u x = some (M.pText u x)) ∧ (M.pText u x).size ≤ 300 := fun x hx => by
  have h := w0.2.2.2.2.2.2.1.2 x hx
  have hb : Packet.bulk x ≤ bulkL Packet.bulk w.fNet := bulkL_mem hx
  obtain ⟨v, ⟨h1, h2⟩, h3⟩ := PacketText_eq hu h (by unfold World.bulk at b0; omega)
  unfold M.pText
  rw [h1]
  exact ⟨⟨rfl, h2⟩, h3⟩
theorem NetText_same {u : Nat} (hu : 1099511627776 ≤ u) {p0 : World} (w0 : World.wf p0) (b0 : World.bulk p0 ≤ 1048576) : ∃ v, spec_NetText u p0 = some v ∧ impl_NetText u p0 = some v := by
  have hn := (worldOk w0 b0).net
  have hw := pText_eq hu w0 b0
  have hsz := texts_le (g := M.pText u) (B := 300) (fun x hx => (hw x hx).2)
  refine ⟨if p0.fNet.length = 0 then ByteArray.mk #[45] else M.jn M.sep (p0.fNet.map (M.pText u)), ?_, ?_⟩
  · unfold spec_NetText
    rw [spec_NetText_l2_w u p0 _ u (by omega) (by omega), Int.toNat_natCast,
      walk_acc (ts := p0.fNet.map (M.pText u)) (sep := M.sep) (B := 300) (Nat.le_refl 2) hsz (by rw [List.length_map]; omega) (by omega) ?_ p0.fNet.length 0 _ (by simp) (Nat.zero_le _), List.drop_zero, acc_jn]
    · unfold spec_NetText_l2_f spec_NetText_j1
      rw [show ((p0.fNet.length : Int) == 0) = (p0.fNet.length == 0) from len_beq _ 0]
      by_cases h : p0.fNet.length = 0
      · rw [if_pos h, beq_iff_eq.2 h]; rfl
      · rw [if_neg h, beq_eq_false_iff_ne.2 h]; rfl
    · intro i s k t ht h1 h2
      rw [List.getElem?_map, Option.map_eq_some_iff] at ht
      obtain ⟨n, hn, rfl⟩ := ht
      have hj : ∀ s : ByteArray, s.size ≤ 4611686018427387906 → spec_NetText_j3 u (fun z0 z1 z2 => k z0) s (i : Int) p0 = k (s ++ M.pText u n) := fun s hs => by
        unfold spec_NetText_j3
        rw [idx_lit p0.fNet i hn, Option.bind_some, (hw n (List.mem_of_getElem? hn)).1.1, Option.bind_some, chk_of (by omega)]
        rfl
      unfold spec_NetText_l2_b
      by_cases hi : i > 0
      · have hi' : (i : Int) > 0 := by omega
        rw [decide_eq_true hi', cond_true, if_pos hi, chk_of (by rw [sz2]; omega), Option.bind_some, hj _ (by rw [ByteArray.size_append, sz2]; omega)]
        rfl
      · have hi' : ¬ (i : Int) > 0 := by omega
        rw [decide_eq_false hi', cond_false, if_neg hi, hj _ (by omega)]
  · unfold impl_NetText
    rw [show ((p0.fNet.length : Int) == 0) = (p0.fNet.length == 0) from len_beq _ 0]
    by_cases h : p0.fNet.length = 0
    · rw [if_pos h, beq_iff_eq.2 h]; rfl
    rw [if_neg h, beq_eq_false_iff_ne.2 h, cond_false, impl_NetText_l2_w u p0 _ u (by omega) (by omega), wlist_map (g := M.pText u) p0.fNet 0 []]
    · unfold impl_NetText_l2_f impl_NetText_j1
      rw [List.nil_append, join_eq (B := 300) (by rw [sz2]; omega) hsz (by rw [List.length_map]; omega) (by omega)]
      rfl
    · intro y hy i s k hs
      unfold impl_NetText_l2_b
      rw [(hw y hy).1.2, Option.bind_some, chk_row s _ hs]
      rfl
    · simp only [List.length_nil]; omega
theorem NetText_law (p0 : World) (h : World.wf p0 ∧ True) : laws_FnExactNetText 1099511627776 p0 = some true := by
  obtain ⟨w0, _⟩ := h
  have hu : 1099511627776 ≤ 1099511627776 := Nat.le_refl _
  unfold laws_FnExactNetText
  rw [laws_szWorld_eq hu (x := p0) (n := 1048576) (by omega) (by omega) w0]
  simp only [Option.bind_some]
  by_cases b0 : ((World.bulk p0 : Nat) : Int) ≤ 1048576
  · have c0 : ¬ (1048576 - ((World.bulk p0 : Nat) : Int) < 0) := by omega
    rw [leftI_pos b0]
    simp only [c0, decide_false, cond_false]
    obtain ⟨v, e1, e2⟩ := NetText_same hu w0 (show _ ≤ 1048576 by omega)
    simp only [laws_toWorld_eq hu (x := p0) (by omega), laws_eqWorld_eq hu (x := p0) (by omega), e1, e2, Option.bind_some, bne_self_eq_false, beq_self_eq_true, Bool.not_true, cond_false]
  · rw [leftI_neg b0]; rfl
end Go.Tm.Pu
