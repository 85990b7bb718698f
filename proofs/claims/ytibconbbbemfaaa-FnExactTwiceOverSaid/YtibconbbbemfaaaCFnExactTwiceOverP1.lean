/- Plain laws of the functions. -/
import Derived.Test.YtibconbbbemfaaaCFnExactTwiceOverD
set_option linter.unusedVariables false
set_option linter.unusedSimpArgs false
namespace Go.Tm.Pu
open Go.Tm
theorem laws_szByteS_eq {u:Nat} (hu:1099511627776≤u) {x:List Int} {n:Int} (h0:0≤n) (h1:n≤1048576) (hw:(wSl (wInt .u8)) x):laws_szByteS u x n=some (leftI n x.length):=left_len h0 h1 hw.1
theorem laws_toByteS_eq {u:Nat} (hu:1099511627776≤u) {x:List Int} (h:x.length≤68719476736):laws_toByteS u x=some x:=by
  have hlen:x.length≤68719476736:=by omega
  unfold laws_toByteS
  rw [chk_len,chk_dec (by rw [Int.toNat_natCast]; omega)]
  simp only [Option.bind_some,Int.toNat_natCast]
  rw [laws_toByteS_l2_w u x _ u (by omega) (by omega),wlist_copy0]
  · rfl
  · intro y i s k hx hi
    unfold laws_toByteS_l2_b
    rw [idx_nat,List.getElem?_eq_getElem hi]; simp
theorem laws_eqByteS_eq {u:Nat} (hu:1099511627776≤u) {x:List Int} (h:x.length≤68719476736):laws_eqByteS u x x=some true:=by
  have hlen:x.length≤68719476736:=by omega
  unfold laws_eqByteS
  simp only [bne_self_eq_false,cond_false]
  rw [laws_eqByteS_l2_w u x x () u (by omega) (by omega),wlist_all (xs:=x) _ x 0 (by simp)]
  · rfl
  · intro y i k hx
    unfold laws_eqByteS_l2_b
    rw [idx_nat,hx]; simp
theorem laws_toRecord_eq (u:Nat) (x:Record):laws_toRecord u x=some x:=by
  unfold laws_toRecord
  rfl
theorem laws_eqRecord_eq (u:Nat) (x:Record):laws_eqRecord u x x=some true:=by
  unfold laws_eqRecord
  simp []
def Put.bulk (x:Put):Nat:=x.fB.length
theorem laws_szPut_eq {u:Nat} (hu:1099511627776≤u) {x:Put} {n:Int} (h0:0≤n) (h1:n≤1048576) (hw:Put.wf x):laws_szPut u x n=some (leftI n (Put.bulk x)):=by
  unfold laws_szPut Put.bulk
  rw [laws_szByteS_eq hu h0 h1 hw.2.2.1]
  simp only [Option.bind_some]
  exact left_last
theorem laws_toPut_eq {u:Nat} (hu:1099511627776≤u) {x:Put} (h:Put.bulk x≤68719476736):laws_toPut u x=some x:=by
  unfold Put.bulk at h
  unfold laws_toPut
  rw [laws_toByteS_eq hu (by omega),laws_toRecord_eq u _]; rfl
theorem laws_eqPut_eq {u:Nat} (hu:1099511627776≤u) {x:Put} (h:Put.bulk x≤68719476736):laws_eqPut u x x=some true:=by
  unfold Put.bulk at h
  unfold laws_eqPut
  simp [laws_eqByteS_eq hu (x:=x.fB) (by omega),laws_eqRecord_eq]
theorem laws_toKid_eq (u:Nat) (x:Kid):laws_toKid u x=some x:=by
  unfold laws_toKid
  rfl
theorem laws_eqKid_eq (u:Nat) (x:Kid):laws_eqKid u x x=some true:=by
  unfold laws_eqKid
  simp []
theorem laws_toSum_eq (u:Nat) (x:Sum):laws_toSum u x=some x:=by
  unfold laws_toSum
  rfl
theorem laws_eqSum_eq (u:Nat) (x:Sum):laws_eqSum u x x=some true:=by
  unfold laws_eqSum
  simp []
theorem laws_szIntS_eq {u:Nat} (hu:1099511627776≤u) {x:List Int} {n:Int} (h0:0≤n) (h1:n≤1048576) (hw:(wSl (wInt .i64)) x):laws_szIntS u x n=some (leftI n x.length):=left_len h0 h1 hw.1
theorem laws_toIntS_eq {u:Nat} (hu:1099511627776≤u) {x:List Int} (h:x.length≤68719476736):laws_toIntS u x=some x:=by
  have hlen:x.length≤68719476736:=by omega
  unfold laws_toIntS
  rw [chk_len,chk_dec (by rw [Int.toNat_natCast]; omega)]
  simp only [Option.bind_some,Int.toNat_natCast]
  rw [laws_toIntS_l2_w u x _ u (by omega) (by omega),wlist_copy0]
  · rfl
  · intro y i s k hx hi
    unfold laws_toIntS_l2_b
    rw [idx_nat,List.getElem?_eq_getElem hi]; simp
theorem laws_eqIntS_eq {u:Nat} (hu:1099511627776≤u) {x:List Int} (h:x.length≤68719476736):laws_eqIntS u x x=some true:=by
  have hlen:x.length≤68719476736:=by omega
  unfold laws_eqIntS
  simp only [bne_self_eq_false,cond_false]
  rw [laws_eqIntS_l2_w u x x () u (by omega) (by omega),wlist_all (xs:=x) _ x 0 (by simp)]
  · rfl
  · intro y i k hx
    unfold laws_eqIntS_l2_b
    rw [idx_nat,hx]; simp
def Tree.bulk (x:Tree):Nat:=x.fUp.length
theorem laws_szTree_eq {u:Nat} (hu:1099511627776≤u) {x:Tree} {n:Int} (h0:0≤n) (h1:n≤1048576) (hw:Tree.wf x):laws_szTree u x n=some (leftI n (Tree.bulk x)):=by
  unfold laws_szTree Tree.bulk
  rw [laws_szIntS_eq hu h0 h1 hw.1]
  simp only [Option.bind_some]
  exact left_last
theorem laws_toTree_eq {u:Nat} (hu:1099511627776≤u) {x:Tree} (h:Tree.bulk x≤68719476736):laws_toTree u x=some x:=by
  unfold Tree.bulk at h
  unfold laws_toTree
  rw [laws_toIntS_eq hu (by omega)]; rfl
theorem laws_eqTree_eq {u:Nat} (hu:1099511627776≤u) {x:Tree} (h:Tree.bulk x≤68719476736):laws_eqTree u x x=some true:=by
  unfold Tree.bulk at h
  unfold laws_eqTree
  simp [laws_eqIntS_eq hu (x:=x.fUp) (by omega)]
theorem laws_toConf_eq (u:Nat) (x:Conf):laws_toConf u x=some x:=by
  unfold laws_toConf
  rfl
theorem laws_eqConf_eq (u:Nat) (x:Conf):laws_eqConf u x x=some true:=by
  unfold laws_eqConf
  simp []
theorem laws_szSumS_eq {u:Nat} (hu:1099511627776≤u) {x:List Sum} {n:Int} (h0:0≤n) (h1:n≤1048576) (hw:(wSl Sum.wf) x):laws_szSumS u x n=some (leftI n x.length):=left_len h0 h1 hw.1
theorem laws_toSumS_eq {u:Nat} (hu:1099511627776≤u) {x:List Sum} (h:x.length≤68719476736):laws_toSumS u x=some x:=by
  have hlen:x.length≤68719476736:=by omega
  unfold laws_toSumS
  rw [chk_len,chk_dec (by rw [Int.toNat_natCast]; omega)]
  simp only [Option.bind_some,Int.toNat_natCast]
  rw [laws_toSumS_l2_w u x _ u (by omega) (by omega),wlist_copy0]
  · rfl
  · intro y i s k hx hi
    unfold laws_toSumS_l2_b
    rw [laws_toSum_eq u _]
    rw [idx_nat,List.getElem?_eq_getElem hi]; simp
theorem laws_eqSumS_eq {u:Nat} (hu:1099511627776≤u) {x:List Sum} (h:x.length≤68719476736):laws_eqSumS u x x=some true:=by
  have hlen:x.length≤68719476736:=by omega
  unfold laws_eqSumS
  simp only [bne_self_eq_false,cond_false]
  rw [laws_eqSumS_l2_w u x x () u (by omega) (by omega),wlist_all (xs:=x) _ x 0 (by simp)]
  · rfl
  · intro y i k hx
    unfold laws_eqSumS_l2_b
    rw [idx_nat,hx]
    simp only [Option.bind_some]
    rw [laws_eqSum_eq]; simp
def Manifest.bulk (x:Manifest):Nat:=x.fSums.length
theorem laws_szManifest_eq {u:Nat} (hu:1099511627776≤u) {x:Manifest} {n:Int} (h0:0≤n) (h1:n≤1048576) (hw:Manifest.wf x):laws_szManifest u x n=some (leftI n (Manifest.bulk x)):=by
  unfold laws_szManifest Manifest.bulk
  rw [laws_szSumS_eq hu h0 h1 hw.2.2.2.1]
  simp only [Option.bind_some]
  exact left_last
theorem laws_toManifest_eq {u:Nat} (hu:1099511627776≤u) {x:Manifest} (h:Manifest.bulk x≤68719476736):laws_toManifest u x=some x:=by
  unfold Manifest.bulk at h
  unfold laws_toManifest
  rw [laws_toSumS_eq hu (by omega)]; rfl
theorem laws_eqManifest_eq {u:Nat} (hu:1099511627776≤u) {x:Manifest} (h:Manifest.bulk x≤68719476736):laws_eqManifest u x x=some true:=by
  unfold Manifest.bulk at h
  unfold laws_eqManifest
  simp [laws_eqSumS_eq hu (x:=x.fSums) (by omega)]
def Build.bulk (x:Build):Nat:=x.fBuf.length
theorem laws_szBuild_eq {u:Nat} (hu:1099511627776≤u) {x:Build} {n:Int} (h0:0≤n) (h1:n≤1048576) (hw:Build.wf x):laws_szBuild u x n=some (leftI n (Build.bulk x)):=by
  unfold laws_szBuild Build.bulk
  rw [laws_szByteS_eq hu h0 h1 hw.2.1]
  simp only [Option.bind_some]
  exact left_last
theorem laws_toBuild_eq {u:Nat} (hu:1099511627776≤u) {x:Build} (h:Build.bulk x≤68719476736):laws_toBuild u x=some x:=by
  unfold Build.bulk at h
  unfold laws_toBuild
  rw [laws_toByteS_eq hu (by omega)]; rfl
theorem laws_eqBuild_eq {u:Nat} (hu:1099511627776≤u) {x:Build} (h:Build.bulk x≤68719476736):laws_eqBuild u x x=some true:=by
  unfold Build.bulk at h
  unfold laws_eqBuild
  simp [laws_eqByteS_eq hu (x:=x.fBuf) (by omega)]
theorem laws_szKidS_eq {u:Nat} (hu:1099511627776≤u) {x:List Kid} {n:Int} (h0:0≤n) (h1:n≤1048576) (hw:(wSl Kid.wf) x):laws_szKidS u x n=some (leftI n x.length):=left_len h0 h1 hw.1
theorem laws_toKidS_eq {u:Nat} (hu:1099511627776≤u) {x:List Kid} (h:x.length≤68719476736):laws_toKidS u x=some x:=by
  have hlen:x.length≤68719476736:=by omega
  unfold laws_toKidS
  rw [chk_len,chk_dec (by rw [Int.toNat_natCast]; omega)]
  simp only [Option.bind_some,Int.toNat_natCast]
  rw [laws_toKidS_l2_w u x _ u (by omega) (by omega),wlist_copy0]
  · rfl
  · intro y i s k hx hi
    unfold laws_toKidS_l2_b
    rw [laws_toKid_eq u _]
    rw [idx_nat,List.getElem?_eq_getElem hi]; simp
theorem laws_eqKidS_eq {u:Nat} (hu:1099511627776≤u) {x:List Kid} (h:x.length≤68719476736):laws_eqKidS u x x=some true:=by
  have hlen:x.length≤68719476736:=by omega
  unfold laws_eqKidS
  simp only [bne_self_eq_false,cond_false]
  rw [laws_eqKidS_l2_w u x x () u (by omega) (by omega),wlist_all (xs:=x) _ x 0 (by simp)]
  · rfl
  · intro y i k hx
    unfold laws_eqKidS_l2_b
    rw [idx_nat,hx]
    simp only [Option.bind_some]
    rw [laws_eqKid_eq]; simp
def Node.bulk (x:Node):Nat:=Manifest.bulk x.fMan+(Build.bulk x.fBld+(x.fKids.length))
theorem laws_szNode_eq {u:Nat} (hu:1099511627776≤u) {x:Node} {n:Int} (h0:0≤n) (h1:n≤1048576) (hw:Node.wf x):laws_szNode u x n=some (leftI n (Node.bulk x)):=by
  unfold laws_szNode Node.bulk
  rw [laws_szManifest_eq hu h0 h1 hw.2.2.2.1]
  simp only [Option.bind_some]
  exact left_step (c:=Build.bulk x.fBld+(x.fKids.length)) (f:=fun r=>(laws_szBuild u x.fBld r).bind fun r1=>bif decide (r1 < 0) then some (-1) else ((laws_szKidS u x.fKids r1).bind fun r2=>bif decide (r2 < 0) then some (-1) else (some r2))) (fun v0 h2v0 h3v0=>by rw [laws_szBuild_eq hu h2v0 (by omega) hw.2.2.2.2.1]; simp only [Option.bind_some]; exact left_step (c:=x.fKids.length) (f:=fun r=>(laws_szKidS u x.fKids r).bind fun r2=>bif decide (r2 < 0) then some (-1) else (some r2)) (fun v1 h2v1 h3v1=>by rw [laws_szKidS_eq hu h2v1 (by omega) hw.2.2.2.2.2.2.1]; simp only [Option.bind_some]; exact left_last) h2v0) h0
theorem laws_toNode_eq {u:Nat} (hu:1099511627776≤u) {x:Node} (h:Node.bulk x≤68719476736):laws_toNode u x=some x:=by
  unfold Node.bulk at h
  unfold laws_toNode
  rw [laws_toManifest_eq hu (by omega),laws_toBuild_eq hu (by omega),laws_toKidS_eq hu (by omega)]; rfl
theorem laws_eqNode_eq {u:Nat} (hu:1099511627776≤u) {x:Node} (h:Node.bulk x≤68719476736):laws_eqNode u x x=some true:=by
  unfold Node.bulk at h
  unfold laws_eqNode
  simp [laws_eqManifest_eq hu (x:=x.fMan) (by omega),laws_eqBuild_eq hu (x:=x.fBld) (by omega),laws_eqKidS_eq hu (x:=x.fKids) (by omega)]
theorem laws_szPutS_eq {u:Nat} (hu:1099511627776≤u) {x:List Put} {n:Int} (h0:0≤n) (h1:n≤1048576) (hw:(wSl Put.wf) x):laws_szPutS u x n=some (leftI n (bulkL Put.bulk x)) :=
  left_list (c:=sumL Put.bulk x) (f:=fun r=>laws_szPutS_l2 u u x r 0) (fun hm r h2 h3=>by
    rw [laws_szPutS_l2_w u x r u (by omega) (by omega)]
    exact wlist_sz (f:=Put.bulk) (fun s=>rfl) (fun y i s k hy hs0 hs1=>by unfold laws_szPutS_l2_b; rw [laws_szPut_eq hu hs0 hs1 (hw.2 y hy)]; rfl) x 0 r (fun _ h=>h) h2 (by omega)) h0 h1 hw.1
theorem laws_toPutS_eq {u:Nat} (hu:1099511627776≤u) {x:List Put} (h:Pu.bulkL Put.bulk x≤68719476736):laws_toPutS u x=some x:=by
  have hlen:x.length≤68719476736:=by have:=bulkL_len (f:=Put.bulk) x; omega
  unfold laws_toPutS
  rw [chk_len,chk_dec (by rw [Int.toNat_natCast]; omega)]
  simp only [Option.bind_some,Int.toNat_natCast]
  rw [laws_toPutS_l2_w u x _ u (by omega) (by omega),wlist_copy0]
  · rfl
  · intro y i s k hx hi
    unfold laws_toPutS_l2_b
    rw [laws_toPut_eq hu (Nat.le_trans (bulkL_mem (f:=Put.bulk) hx) h)]
    rw [idx_nat,List.getElem?_eq_getElem hi]; simp
theorem laws_eqPutS_eq {u:Nat} (hu:1099511627776≤u) {x:List Put} (h:Pu.bulkL Put.bulk x≤68719476736):laws_eqPutS u x x=some true:=by
  have hlen:x.length≤68719476736:=by have:=bulkL_len (f:=Put.bulk) x; omega
  unfold laws_eqPutS
  simp only [bne_self_eq_false,cond_false]
  rw [laws_eqPutS_l2_w u x x () u (by omega) (by omega),wlist_all (xs:=x) _ x 0 (by simp)]
  · rfl
  · intro y i k hx
    unfold laws_eqPutS_l2_b
    rw [idx_nat,hx]
    simp only [Option.bind_some]
    rw [laws_eqPut_eq hu (Nat.le_trans (bulkL_mem (f:=Put.bulk) (List.mem_of_getElem? hx)) h)]; simp
def Disk.bulk (x:Disk):Nat:=x.fA.length+(x.fB.length+(Pu.bulkL Put.bulk x.fP))
theorem laws_szDisk_eq {u:Nat} (hu:1099511627776≤u) {x:Disk} {n:Int} (h0:0≤n) (h1:n≤1048576) (hw:Disk.wf x):laws_szDisk u x n=some (leftI n (Disk.bulk x)):=by
  unfold laws_szDisk Disk.bulk
  rw [laws_szByteS_eq hu h0 h1 hw.1]
  simp only [Option.bind_some]
  exact left_step (c:=x.fB.length+(Pu.bulkL Put.bulk x.fP)) (f:=fun r=>(laws_szByteS u x.fB r).bind fun r1=>bif decide (r1 < 0) then some (-1) else ((laws_szPutS u x.fP r1).bind fun r2=>bif decide (r2 < 0) then some (-1) else (some r2))) (fun v0 h2v0 h3v0=>by rw [laws_szByteS_eq hu h2v0 (by omega) hw.2.1]; simp only [Option.bind_some]; exact left_step (c:=Pu.bulkL Put.bulk x.fP) (f:=fun r=>(laws_szPutS u x.fP r).bind fun r2=>bif decide (r2 < 0) then some (-1) else (some r2)) (fun v1 h2v1 h3v1=>by rw [laws_szPutS_eq hu h2v1 (by omega) hw.2.2.2.1]; simp only [Option.bind_some]; exact left_last) h2v0) h0
theorem laws_toDisk_eq {u:Nat} (hu:1099511627776≤u) {x:Disk} (h:Disk.bulk x≤68719476736):laws_toDisk u x=some x:=by
  unfold Disk.bulk at h
  unfold laws_toDisk
  rw [laws_toByteS_eq hu (by omega),laws_toByteS_eq hu (by omega),laws_toRecord_eq u _,laws_toPutS_eq hu (by omega)]; rfl
theorem laws_eqDisk_eq {u:Nat} (hu:1099511627776≤u) {x:Disk} (h:Disk.bulk x≤68719476736):laws_eqDisk u x x=some true:=by
  unfold Disk.bulk at h
  unfold laws_eqDisk
  simp [laws_eqByteS_eq hu (x:=x.fA) (by omega),laws_eqByteS_eq hu (x:=x.fB) (by omega),laws_eqRecord_eq,laws_eqPutS_eq hu (x:=x.fP) (by omega)]
theorem laws_toSent_eq (u:Nat) (x:Sent):laws_toSent u x=some x:=by
  unfold laws_toSent
  rfl
theorem laws_eqSent_eq (u:Nat) (x:Sent):laws_eqSent u x x=some true:=by
  unfold laws_eqSent
  simp []
def Image.bulk (x:Image):Nat:=x.fB.length
theorem laws_szImage_eq {u:Nat} (hu:1099511627776≤u) {x:Image} {n:Int} (h0:0≤n) (h1:n≤1048576) (hw:Image.wf x):laws_szImage u x n=some (leftI n (Image.bulk x)):=by
  unfold laws_szImage Image.bulk
  rw [laws_szByteS_eq hu h0 h1 hw.1]
  simp only [Option.bind_some]
  exact left_last
theorem laws_toImage_eq {u:Nat} (hu:1099511627776≤u) {x:Image} (h:Image.bulk x≤68719476736):laws_toImage u x=some x:=by
  unfold Image.bulk at h
  unfold laws_toImage
  rw [laws_toByteS_eq hu (by omega)]; rfl
theorem laws_eqImage_eq {u:Nat} (hu:1099511627776≤u) {x:Image} (h:Image.bulk x≤68719476736):laws_eqImage u x x=some true:=by
  unfold Image.bulk at h
  unfold laws_eqImage
  simp [laws_eqByteS_eq hu (x:=x.fB) (by omega)]
theorem laws_szImageS_eq {u:Nat} (hu:1099511627776≤u) {x:List Image} {n:Int} (h0:0≤n) (h1:n≤1048576) (hw:(wSl Image.wf) x):laws_szImageS u x n=some (leftI n (bulkL Image.bulk x)) :=
  left_list (c:=sumL Image.bulk x) (f:=fun r=>laws_szImageS_l2 u u x r 0) (fun hm r h2 h3=>by
    rw [laws_szImageS_l2_w u x r u (by omega) (by omega)]
    exact wlist_sz (f:=Image.bulk) (fun s=>rfl) (fun y i s k hy hs0 hs1=>by unfold laws_szImageS_l2_b; rw [laws_szImage_eq hu hs0 hs1 (hw.2 y hy)]; rfl) x 0 r (fun _ h=>h) h2 (by omega)) h0 h1 hw.1
theorem laws_toImageS_eq {u:Nat} (hu:1099511627776≤u) {x:List Image} (h:Pu.bulkL Image.bulk x≤68719476736):laws_toImageS u x=some x:=by
  have hlen:x.length≤68719476736:=by have:=bulkL_len (f:=Image.bulk) x; omega
  unfold laws_toImageS
  rw [chk_len,chk_dec (by rw [Int.toNat_natCast]; omega)]
  simp only [Option.bind_some,Int.toNat_natCast]
  rw [laws_toImageS_l2_w u x _ u (by omega) (by omega),wlist_copy0]
  · rfl
  · intro y i s k hx hi
    unfold laws_toImageS_l2_b
    rw [laws_toImage_eq hu (Nat.le_trans (bulkL_mem (f:=Image.bulk) hx) h)]
    rw [idx_nat,List.getElem?_eq_getElem hi]; simp
theorem laws_eqImageS_eq {u:Nat} (hu:1099511627776≤u) {x:List Image} (h:Pu.bulkL Image.bulk x≤68719476736):laws_eqImageS u x x=some true:=by
  have hlen:x.length≤68719476736:=by have:=bulkL_len (f:=Image.bulk) x; omega
  unfold laws_eqImageS
  simp only [bne_self_eq_false,cond_false]
  rw [laws_eqImageS_l2_w u x x () u (by omega) (by omega),wlist_all (xs:=x) _ x 0 (by simp)]
  · rfl
  · intro y i k hx
    unfold laws_eqImageS_l2_b
    rw [idx_nat,hx]
    simp only [Option.bind_some]
    rw [laws_eqImage_eq hu (Nat.le_trans (bulkL_mem (f:=Image.bulk) (List.mem_of_getElem? hx)) h)]; simp
theorem laws_szNodeS_eq {u:Nat} (hu:1099511627776≤u) {x:List Node} {n:Int} (h0:0≤n) (h1:n≤1048576) (hw:(wSl Node.wf) x):laws_szNodeS u x n=some (leftI n (bulkL Node.bulk x)) :=
  left_list (c:=sumL Node.bulk x) (f:=fun r=>laws_szNodeS_l2 u u x r 0) (fun hm r h2 h3=>by
    rw [laws_szNodeS_l2_w u x r u (by omega) (by omega)]
    exact wlist_sz (f:=Node.bulk) (fun s=>rfl) (fun y i s k hy hs0 hs1=>by unfold laws_szNodeS_l2_b; rw [laws_szNode_eq hu hs0 hs1 (hw.2 y hy)]; rfl) x 0 r (fun _ h=>h) h2 (by omega)) h0 h1 hw.1
theorem laws_toNodeS_eq {u:Nat} (hu:1099511627776≤u) {x:List Node} (h:Pu.bulkL Node.bulk x≤68719476736):laws_toNodeS u x=some x:=by
  have hlen:x.length≤68719476736:=by have:=bulkL_len (f:=Node.bulk) x; omega
  unfold laws_toNodeS
  rw [chk_len,chk_dec (by rw [Int.toNat_natCast]; omega)]
  simp only [Option.bind_some,Int.toNat_natCast]
  rw [laws_toNodeS_l2_w u x _ u (by omega) (by omega),wlist_copy0]
  · rfl
  · intro y i s k hx hi
    unfold laws_toNodeS_l2_b
    rw [laws_toNode_eq hu (Nat.le_trans (bulkL_mem (f:=Node.bulk) hx) h)]
    rw [idx_nat,List.getElem?_eq_getElem hi]; simp
theorem laws_eqNodeS_eq {u:Nat} (hu:1099511627776≤u) {x:List Node} (h:Pu.bulkL Node.bulk x≤68719476736):laws_eqNodeS u x x=some true:=by
  have hlen:x.length≤68719476736:=by have:=bulkL_len (f:=Node.bulk) x; omega
  unfold laws_eqNodeS
  simp only [bne_self_eq_false,cond_false]
  rw [laws_eqNodeS_l2_w u x x () u (by omega) (by omega),wlist_all (xs:=x) _ x 0 (by simp)]
  · rfl
  · intro y i k hx
    unfold laws_eqNodeS_l2_b
    rw [idx_nat,hx]
    simp only [Option.bind_some]
    rw [laws_eqNode_eq hu (Nat.le_trans (bulkL_mem (f:=Node.bulk) (List.mem_of_getElem? hx)) h)]; simp
theorem laws_szDiskS_eq {u:Nat} (hu:1099511627776≤u) {x:List Disk} {n:Int} (h0:0≤n) (h1:n≤1048576) (hw:(wSl Disk.wf) x):laws_szDiskS u x n=some (leftI n (bulkL Disk.bulk x)) :=
  left_list (c:=sumL Disk.bulk x) (f:=fun r=>laws_szDiskS_l2 u u x r 0) (fun hm r h2 h3=>by
    rw [laws_szDiskS_l2_w u x r u (by omega) (by omega)]
    exact wlist_sz (f:=Disk.bulk) (fun s=>rfl) (fun y i s k hy hs0 hs1=>by unfold laws_szDiskS_l2_b; rw [laws_szDisk_eq hu hs0 hs1 (hw.2 y hy)]; rfl) x 0 r (fun _ h=>h) h2 (by omega)) h0 h1 hw.1
theorem laws_toDiskS_eq {u:Nat} (hu:1099511627776≤u) {x:List Disk} (h:Pu.bulkL Disk.bulk x≤68719476736):laws_toDiskS u x=some x:=by
  have hlen:x.length≤68719476736:=by have:=bulkL_len (f:=Disk.bulk) x; omega
  unfold laws_toDiskS
  rw [chk_len,chk_dec (by rw [Int.toNat_natCast]; omega)]
  simp only [Option.bind_some,Int.toNat_natCast]
  rw [laws_toDiskS_l2_w u x _ u (by omega) (by omega),wlist_copy0]
  · rfl
  · intro y i s k hx hi
    unfold laws_toDiskS_l2_b
    rw [laws_toDisk_eq hu (Nat.le_trans (bulkL_mem (f:=Disk.bulk) hx) h)]
    rw [idx_nat,List.getElem?_eq_getElem hi]; simp
theorem laws_eqDiskS_eq {u:Nat} (hu:1099511627776≤u) {x:List Disk} (h:Pu.bulkL Disk.bulk x≤68719476736):laws_eqDiskS u x x=some true:=by
  have hlen:x.length≤68719476736:=by have:=bulkL_len (f:=Disk.bulk) x; omega
  unfold laws_eqDiskS
  simp only [bne_self_eq_false,cond_false]
  rw [laws_eqDiskS_l2_w u x x () u (by omega) (by omega),wlist_all (xs:=x) _ x 0 (by simp)]
  · rfl
  · intro y i k hx
    unfold laws_eqDiskS_l2_b
    rw [idx_nat,hx]
    simp only [Option.bind_some]
    rw [laws_eqDisk_eq hu (Nat.le_trans (bulkL_mem (f:=Disk.bulk) (List.mem_of_getElem? hx)) h)]; simp
def Packet.bulk (x:Packet):Nat:=x.fB.length
theorem laws_szPacket_eq {u:Nat} (hu:1099511627776≤u) {x:Packet} {n:Int} (h0:0≤n) (h1:n≤1048576) (hw:Packet.wf x):laws_szPacket u x n=some (leftI n (Packet.bulk x)):=by
  unfold laws_szPacket Packet.bulk
  rw [laws_szByteS_eq hu h0 h1 hw.2.2.1]
  simp only [Option.bind_some]
  exact left_last
theorem laws_toPacket_eq {u:Nat} (hu:1099511627776≤u) {x:Packet} (h:Packet.bulk x≤68719476736):laws_toPacket u x=some x:=by
  unfold Packet.bulk at h
  unfold laws_toPacket
  rw [laws_toByteS_eq hu (by omega)]; rfl
theorem laws_eqPacket_eq {u:Nat} (hu:1099511627776≤u) {x:Packet} (h:Packet.bulk x≤68719476736):laws_eqPacket u x x=some true:=by
  unfold Packet.bulk at h
  unfold laws_eqPacket
  simp [laws_eqByteS_eq hu (x:=x.fB) (by omega)]
theorem laws_szPacketS_eq {u:Nat} (hu:1099511627776≤u) {x:List Packet} {n:Int} (h0:0≤n) (h1:n≤1048576) (hw:(wSl Packet.wf) x):laws_szPacketS u x n=some (leftI n (bulkL Packet.bulk x)) :=
  left_list (c:=sumL Packet.bulk x) (f:=fun r=>laws_szPacketS_l2 u u x r 0) (fun hm r h2 h3=>by
    rw [laws_szPacketS_l2_w u x r u (by omega) (by omega)]
    exact wlist_sz (f:=Packet.bulk) (fun s=>rfl) (fun y i s k hy hs0 hs1=>by unfold laws_szPacketS_l2_b; rw [laws_szPacket_eq hu hs0 hs1 (hw.2 y hy)]; rfl) x 0 r (fun _ h=>h) h2 (by omega)) h0 h1 hw.1
theorem laws_toPacketS_eq {u:Nat} (hu:1099511627776≤u) {x:List Packet} (h:Pu.bulkL Packet.bulk x≤68719476736):laws_toPacketS u x=some x:=by
  have hlen:x.length≤68719476736:=by have:=bulkL_len (f:=Packet.bulk) x; omega
  unfold laws_toPacketS
  rw [chk_len,chk_dec (by rw [Int.toNat_natCast]; omega)]
  simp only [Option.bind_some,Int.toNat_natCast]
  rw [laws_toPacketS_l2_w u x _ u (by omega) (by omega),wlist_copy0]
  · rfl
  · intro y i s k hx hi
    unfold laws_toPacketS_l2_b
    rw [laws_toPacket_eq hu (Nat.le_trans (bulkL_mem (f:=Packet.bulk) hx) h)]
    rw [idx_nat,List.getElem?_eq_getElem hi]; simp
theorem laws_eqPacketS_eq {u:Nat} (hu:1099511627776≤u) {x:List Packet} (h:Pu.bulkL Packet.bulk x≤68719476736):laws_eqPacketS u x x=some true:=by
  have hlen:x.length≤68719476736:=by have:=bulkL_len (f:=Packet.bulk) x; omega
  unfold laws_eqPacketS
  simp only [bne_self_eq_false,cond_false]
  rw [laws_eqPacketS_l2_w u x x () u (by omega) (by omega),wlist_all (xs:=x) _ x 0 (by simp)]
  · rfl
  · intro y i k hx
    unfold laws_eqPacketS_l2_b
    rw [idx_nat,hx]
    simp only [Option.bind_some]
    rw [laws_eqPacket_eq hu (Nat.le_trans (bulkL_mem (f:=Packet.bulk) (List.mem_of_getElem? hx)) h)]; simp
theorem laws_szSentS_eq {u:Nat} (hu:1099511627776≤u) {x:List Sent} {n:Int} (h0:0≤n) (h1:n≤1048576) (hw:(wSl Sent.wf) x):laws_szSentS u x n=some (leftI n x.length):=left_len h0 h1 hw.1
theorem laws_toSentS_eq {u:Nat} (hu:1099511627776≤u) {x:List Sent} (h:x.length≤68719476736):laws_toSentS u x=some x:=by
  have hlen:x.length≤68719476736:=by omega
  unfold laws_toSentS
  rw [chk_len,chk_dec (by rw [Int.toNat_natCast]; omega)]
  simp only [Option.bind_some,Int.toNat_natCast]
  rw [laws_toSentS_l2_w u x _ u (by omega) (by omega),wlist_copy0]
  · rfl
  · intro y i s k hx hi
    unfold laws_toSentS_l2_b
    rw [laws_toSent_eq u _]
    rw [idx_nat,List.getElem?_eq_getElem hi]; simp
theorem laws_eqSentS_eq {u:Nat} (hu:1099511627776≤u) {x:List Sent} (h:x.length≤68719476736):laws_eqSentS u x x=some true:=by
  have hlen:x.length≤68719476736:=by omega
  unfold laws_eqSentS
  simp only [bne_self_eq_false,cond_false]
  rw [laws_eqSentS_l2_w u x x () u (by omega) (by omega),wlist_all (xs:=x) _ x 0 (by simp)]
  · rfl
  · intro y i k hx
    unfold laws_eqSentS_l2_b
    rw [idx_nat,hx]
    simp only [Option.bind_some]
    rw [laws_eqSent_eq]; simp
def World.bulk (x:World):Nat:=Tree.bulk x.fT+(x.fNew.length+(Pu.bulkL Image.bulk x.fOld+(Pu.bulkL Node.bulk x.fN+(Pu.bulkL Disk.bulk x.fD+(Pu.bulkL Packet.bulk x.fNet+(x.fLog.length))))))
theorem laws_szWorld_eq {u:Nat} (hu:1099511627776≤u) {x:World} {n:Int} (h0:0≤n) (h1:n≤1048576) (hw:World.wf x):laws_szWorld u x n=some (leftI n (World.bulk x)):=by
  unfold laws_szWorld World.bulk
  rw [laws_szTree_eq hu h0 h1 hw.2.1]
  simp only [Option.bind_some]
  exact left_step (c:=x.fNew.length+(Pu.bulkL Image.bulk x.fOld+(Pu.bulkL Node.bulk x.fN+(Pu.bulkL Disk.bulk x.fD+(Pu.bulkL Packet.bulk x.fNet+(x.fLog.length)))))) (f:=fun r=>(laws_szByteS u x.fNew r).bind fun r1=>bif decide (r1 < 0) then some (-1) else ((laws_szImageS u x.fOld r1).bind fun r2=>bif decide (r2 < 0) then some (-1) else ((laws_szNodeS u x.fN r2).bind fun r3=>bif decide (r3 < 0) then some (-1) else ((laws_szDiskS u x.fD r3).bind fun r4=>bif decide (r4 < 0) then some (-1) else ((laws_szPacketS u x.fNet r4).bind fun r5=>bif decide (r5 < 0) then some (-1) else ((laws_szSentS u x.fLog r5).bind fun r6=>bif decide (r6 < 0) then some (-1) else (some r6))))))) (fun v0 h2v0 h3v0=>by rw [laws_szByteS_eq hu h2v0 (by omega) hw.2.2.1]; simp only [Option.bind_some]; exact left_step (c:=Pu.bulkL Image.bulk x.fOld+(Pu.bulkL Node.bulk x.fN+(Pu.bulkL Disk.bulk x.fD+(Pu.bulkL Packet.bulk x.fNet+(x.fLog.length))))) (f:=fun r=>(laws_szImageS u x.fOld r).bind fun r2=>bif decide (r2 < 0) then some (-1) else ((laws_szNodeS u x.fN r2).bind fun r3=>bif decide (r3 < 0) then some (-1) else ((laws_szDiskS u x.fD r3).bind fun r4=>bif decide (r4 < 0) then some (-1) else ((laws_szPacketS u x.fNet r4).bind fun r5=>bif decide (r5 < 0) then some (-1) else ((laws_szSentS u x.fLog r5).bind fun r6=>bif decide (r6 < 0) then some (-1) else (some r6)))))) (fun v1 h2v1 h3v1=>by rw [laws_szImageS_eq hu h2v1 (by omega) hw.2.2.2.1]; simp only [Option.bind_some]; exact left_step (c:=Pu.bulkL Node.bulk x.fN+(Pu.bulkL Disk.bulk x.fD+(Pu.bulkL Packet.bulk x.fNet+(x.fLog.length)))) (f:=fun r=>(laws_szNodeS u x.fN r).bind fun r3=>bif decide (r3 < 0) then some (-1) else ((laws_szDiskS u x.fD r3).bind fun r4=>bif decide (r4 < 0) then some (-1) else ((laws_szPacketS u x.fNet r4).bind fun r5=>bif decide (r5 < 0) then some (-1) else ((laws_szSentS u x.fLog r5).bind fun r6=>bif decide (r6 < 0) then some (-1) else (some r6))))) (fun v2 h2v2 h3v2=>by rw [laws_szNodeS_eq hu h2v2 (by omega) hw.2.2.2.2.1]; simp only [Option.bind_some]; exact left_step (c:=Pu.bulkL Disk.bulk x.fD+(Pu.bulkL Packet.bulk x.fNet+(x.fLog.length))) (f:=fun r=>(laws_szDiskS u x.fD r).bind fun r4=>bif decide (r4 < 0) then some (-1) else ((laws_szPacketS u x.fNet r4).bind fun r5=>bif decide (r5 < 0) then some (-1) else ((laws_szSentS u x.fLog r5).bind fun r6=>bif decide (r6 < 0) then some (-1) else (some r6)))) (fun v3 h2v3 h3v3=>by rw [laws_szDiskS_eq hu h2v3 (by omega) hw.2.2.2.2.2.1]; simp only [Option.bind_some]; exact left_step (c:=Pu.bulkL Packet.bulk x.fNet+(x.fLog.length)) (f:=fun r=>(laws_szPacketS u x.fNet r).bind fun r5=>bif decide (r5 < 0) then some (-1) else ((laws_szSentS u x.fLog r5).bind fun r6=>bif decide (r6 < 0) then some (-1) else (some r6))) (fun v4 h2v4 h3v4=>by rw [laws_szPacketS_eq hu h2v4 (by omega) hw.2.2.2.2.2.2.1]; simp only [Option.bind_some]; exact left_step (c:=x.fLog.length) (f:=fun r=>(laws_szSentS u x.fLog r).bind fun r6=>bif decide (r6 < 0) then some (-1) else (some r6)) (fun v5 h2v5 h3v5=>by rw [laws_szSentS_eq hu h2v5 (by omega) hw.2.2.2.2.2.2.2.1]; simp only [Option.bind_some]; exact left_last) h2v4) h2v3) h2v2) h2v1) h2v0) h0
theorem laws_toWorld_eq {u:Nat} (hu:1099511627776≤u) {x:World} (h:World.bulk x≤68719476736):laws_toWorld u x=some x:=by
  unfold World.bulk at h
  unfold laws_toWorld
  rw [laws_toConf_eq u _,laws_toTree_eq hu (by omega),laws_toByteS_eq hu (by omega),laws_toImageS_eq hu (by omega),laws_toNodeS_eq hu (by omega),laws_toDiskS_eq hu (by omega),laws_toPacketS_eq hu (by omega),laws_toSentS_eq hu (by omega)]; rfl
theorem laws_eqWorld_eq {u:Nat} (hu:1099511627776≤u) {x:World} (h:World.bulk x≤68719476736):laws_eqWorld u x x=some true:=by
  unfold World.bulk at h
  unfold laws_eqWorld
  simp [laws_eqConf_eq,laws_eqTree_eq hu (x:=x.fT) (by omega),laws_eqByteS_eq hu (x:=x.fNew) (by omega),laws_eqImageS_eq hu (x:=x.fOld) (by omega),laws_eqNodeS_eq hu (x:=x.fN) (by omega),laws_eqDiskS_eq hu (x:=x.fD) (by omega),laws_eqPacketS_eq hu (x:=x.fNet) (by omega),laws_eqSentS_eq hu (x:=x.fLog) (by omega)]
theorem log_bulk {w:World} (b0:World.bulk w≤1048576):w.fLog.length≤1048576:=by unfold World.bulk at b0; omega
def M.tw (L:List Sent):Nat→Nat→Int→Int
  | 0,_,n=>n
  | d+1,i,n=>M.tw L d (i+1) (if ((L.take i).map sentKey).contains ((L[i]?.map sentKey).getD []) then bAdd .i64 n 1 else n)
theorem tw_succ {L:List Sent} {d i:Nat} {n:Int} (hi:i < L.length):M.tw L (d+1) i n=M.tw L d (i+1) (if ((L.take i).map sentKey).contains (sentKey L[i]) then bAdd .i64 n 1 else n):=by
  rw [M.tw,List.getElem?_eq_getElem hi]; rfl
theorem idx_at {α:Type} {L:List α} {i:Nat} (hi:i < L.length):idx L (i:Int)=some L[i]:=by simp [idx,hi]
theorem add_has (ks:List (List Int)) (y x:List Int):(addK ks y).contains x=(ks.contains x || x == y):=by
  unfold addK
  by_cases h:ks.contains y=true
  · rw [if_pos h]
    by_cases hx:x=y
    · subst hx; rw [h]; simp
    · have:(x == y)=false:=by simpa using hx
      rw [this,Bool.or_false]
  · rw [if_neg h]
    rw [Bool.eq_iff_iff]
    simp
theorem take_has (L:List Sent) {i:Nat} (hi:i < L.length) (x:List Int):((L.take (i+1)).map sentKey).contains x=(((L.take i).map sentKey).contains x || x == sentKey L[i]):=by
  rw [List.take_succ_eq_append_getElem hi,List.map_append,Bool.eq_iff_iff]
  simp
theorem impl_tw {u:Nat} (p0:World) (hl:p0.fLog.length≤1048576):∀ (d i k:Nat) (n:Int) (ks:List (List Int)),i+d=p0.fLog.length→d < k→(∀ x,ks.contains x=((p0.fLog.take i).map sentKey).contains x) →
    impl_TwiceOver_l2 u k n ks p0 (i:Int)=some (M.tw p0.fLog d i n)
  | 0,i,k,n,ks,hi,hk,h=>by
    obtain ⟨k,rfl⟩:∃ j,k=j+1:=⟨k - 1,by omega⟩
    unfold impl_TwiceOver_l2
    have:¬ ((i:Int) < (p0.fLog.length:Int)):=by omega
    simp only [this,decide_false,cond_false]
    rfl
  | d+1,i,k,n,ks,hi,hk,h=>by
    obtain ⟨k,rfl⟩:∃ j,k=j+1:=⟨k - 1,by omega⟩
    unfold impl_TwiceOver_l2
    have hlt:i < p0.fLog.length:=by omega
    have:((i:Int) < (p0.fLog.length:Int)):=by omega
    simp only [this,decide_true,cond_true,idx_at hlt,Option.bind_some]
    rw [bAdd_succ (show i < 9223372036854775807 by omega),impl_tw p0 hl d (i+1) k _ _ (by omega) (by omega) fun x=>by rw [add_has,take_has _ hlt,h]]
    rw [h,tw_succ hlt,Bool.cond_eq_ite]
theorem spec_in {u:Nat} (p0:World) (hl:p0.fLog.length≤1048576) (c:Int→Int→World→Option Int) (n:Int) (i:Nat) (hi:i < p0.fLog.length):∀ (d j k:Nat) (s:Bool),j+d=i→d < k→s=((p0.fLog.take j).map sentKey).contains (sentKey p0.fLog[i]) →
    spec_TwiceOver_l5 u c k n (i:Int) s (j:Int) p0=spec_TwiceOver_j4 u c n (i:Int) (((p0.fLog.take i).map sentKey).contains (sentKey p0.fLog[i])) p0
  | 0,j,k,s,hj,hk,hs=>by
    obtain ⟨k,rfl⟩:∃ j,k=j+1:=⟨k - 1,by omega⟩
    obtain rfl:j=i:=by omega
    unfold spec_TwiceOver_l5
    have:¬ ((j:Int) < (j:Int)):=by omega
    simp only [this,decide_false,cond_false]
    rw [hs]
  | d+1,j,k,s,hj,hk,hs=>by
    obtain ⟨k,rfl⟩:∃ j,k=j+1:=⟨k - 1,by omega⟩
    have hlt:j < p0.fLog.length:=by omega
    have:((j:Int) < (i:Int)):=by omega
    have ht:=take_has p0.fLog hlt (sentKey p0.fLog[i])
    unfold spec_TwiceOver_l5
    simp only [this,decide_true,cond_true]
    cases hq:s with
    | true =>
      simp only [cond_true]
      unfold spec_TwiceOver_j6
      rw [bAdd_succ (show j < 9223372036854775807 by omega)]
      exact spec_in p0 hl c n i hi d (j+1) k true (by omega) (by omega) (by rw [ht,← hs,hq]; rfl)
    | false =>
      simp only [cond_false,idx_at hlt,idx_at hi,Option.bind_some]
      unfold spec_TwiceOver_j6
      rw [bAdd_succ (show j < 9223372036854775807 by omega)]
      refine spec_in p0 hl c n i hi d (j+1) k _ (by omega) (by omega) ?_
      rw [ht,← hs,hq,Bool.false_or]
      show (sentKey p0.fLog[j] == sentKey p0.fLog[i])=_
      exact BEq.comm
theorem spec_tw {u:Nat} (hu:1099511627776≤u) (p0:World) (hl:p0.fLog.length≤1048576):∀ (d i k:Nat) (n:Int),i+d=p0.fLog.length→d < k→spec_TwiceOver_l2 u k n (i:Int) p0=some (M.tw p0.fLog d i n)
  | 0,i,k,n,hi,hk=>by
    obtain ⟨k,rfl⟩:∃ j,k=j+1:=⟨k - 1,by omega⟩
    unfold spec_TwiceOver_l2
    have:¬ ((i:Int) < (p0.fLog.length:Int)):=by omega
    simp only [this,decide_false,cond_false]
    rfl
  | d+1,i,k,n,hi,hk=>by
    obtain ⟨k,rfl⟩:∃ j,k=j+1:=⟨k - 1,by omega⟩
    unfold spec_TwiceOver_l2
    have hlt:i < p0.fLog.length:=by omega
    have:((i:Int) < (p0.fLog.length:Int)):=by omega
    simp only [this,decide_true,cond_true]
    have e:=spec_in (u:=u) p0 hl (fun z0 z1 z2=>spec_TwiceOver_l2 u k z0 z1 z2) n i hlt i 0 u false (by omega) (by omega) (by simp)
    rw [show ((0:Nat):Int)=0 from rfl] at e
    rw [e]
    unfold spec_TwiceOver_j4 spec_TwiceOver_j3
    rw [tw_succ hlt,bAdd_succ (show i < 9223372036854775807 by omega),Bool.cond_eq_ite]
    split
    · exact spec_tw hu p0 hl d (i+1) k _ (by omega) (by omega)
    · exact spec_tw hu p0 hl d (i+1) k _ (by omega) (by omega)
theorem TwiceOver_same {u:Nat} (hu:1099511627776≤u) {p0:World} (w0:World.wf p0) (b0:World.bulk p0≤1048576):∃ v,spec_TwiceOver u p0=some v∧impl_TwiceOver u p0=some v:=by
  have hl:=log_bulk b0
  exact ⟨_,spec_tw hu p0 hl p0.fLog.length 0 u 0 (by omega) (by omega),impl_tw p0 hl p0.fLog.length 0 u 0 [] (by omega) (by omega) (by simp)⟩
theorem TwiceOver_law (p0:World) (h:World.wf p0∧True):laws_FnExactTwiceOver 1099511627776 p0=some true:=by
  obtain ⟨w0,_⟩:=h
  have hu:1099511627776≤1099511627776:=Nat.le_refl _
  unfold laws_FnExactTwiceOver
  rw [laws_szWorld_eq hu (x:=p0) (n:=1048576) (by omega) (by omega) w0]
  simp only [Option.bind_some]
  by_cases b0:((World.bulk p0:Nat):Int)≤1048576
  · have c0:¬ (1048576 - ((World.bulk p0:Nat):Int) < 0):=by omega
    rw [leftI_pos b0]
    simp only [c0,decide_false,cond_false]
    obtain ⟨v,e1,e2⟩:=TwiceOver_same hu w0 (show _≤1048576 by omega)
    simp only [laws_toWorld_eq hu (x:=p0) (by omega),laws_eqWorld_eq hu (x:=p0) (by omega),e1,e2,Option.bind_some,bne_self_eq_false,beq_self_eq_true,Bool.not_true,cond_false]
  · rw [leftI_neg b0]; rfl
end Go.Tm.Pu
