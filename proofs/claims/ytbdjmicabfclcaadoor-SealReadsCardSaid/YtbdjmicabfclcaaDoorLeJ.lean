/- seal: numbers in four bytes, what may be qcy, evaluated. -/
import Derived.Test.YtbdjmicabfclcaaDoorLeH
import Derived.Test.YtbdjmicabfclcaaDoorLeY
import Derived.Test.YtbdjmicabfclcaaDoorLeS
set_option linter.unusedVariables false
set_option linter.unusedSimpArgs false
open List renaming reduceReplicate → rR
open Nat renaming reduceSubDiff → rS
namespace Sl
open Go Go.LE Tb
set_option maxRecDepth 20000
theorem N_shr64 (e:EqT) (a:Nat) (z:BitVec 64) (hz:z.toNat < 64):binV .shr e (N a) (B64 z)=some (N (a / 2 ^ z.toNat)):=by
  show (binI .shr .i64 (a:Int) .u64 (z.toNat:Int)).map LV.v=_
  have h:¬ ((z.toNat:Int) < 0):=by omega
  simp only[binI,if_neg h,zC]
  have h2:min ((z.toNat:Int)).toNat (IntKind.bits .i64)=z.toNat:=by
    rw[Int.toNat_natCast]; exact Nat.min_eq_left (by have:IntKind.bits .i64=64:=rfl; omega)
  rw[h2]
  have h3:Int.fdiv (a:Int) (2 ^ z.toNat)=((a / 2 ^ z.toNat:Nat):Int):=by
    rw[Int.fdiv_eq_ediv_of_nonneg _ (by exact_mod_cast Nat.zero_le _)]
    push_cast
    rfl
  rw[h3]
  rfl
def f4 (n:Nat):List (BitVec 8):=[BitVec.ofNat 8 n,BitVec.ofNat 8 (n / 256),BitVec.ofNat 8 (n / 65536),BitVec.ofNat 8 (n / 16777216)]
theorem four_F (k n:Nat):F C (k+1) 23 [N n] []=some (.sl (1,0) 0 4 (some 4) 1,[],[bs (f4 n)]):=by
  rw[qaH f23]
  simp (disch:=first|omega|decide|simp only[nmsB,lB]) only[simprocAttr,-rR,-rS,leB,memB,arrB,numB,qaf,L23,N_shr64,qae,qab,qad,qac,qaa]
  rw[qaX 0 _ _ [(14,0)] (by simp only[simprocAttr,-rR,-rS,qak,qah,qac,qaa])]
  simp (disch:=first|omega|decide|simp only[nmsB,lB]) only[simprocAttr,-rR,-rS,leB,memB,qaf,qae,qab,qad,qac,qaa]
  rfl
theorem rfour_F (k n:Nat):F C (k+1) 25 [N n] []=some (.sl (1,0) 0 4 (some 4) 1,[],[bs (f4 n)]):=by
  rw[qaH f25]
  simp (disch:=first|omega|decide|simp only[nmsB,lB]) only[simprocAttr,-rR,-rS,leB,memB,arrB,numB,qaf,L25,N_shr64,qae,qab,qad,qac,qaa]
  rw[qaX 0 _ _ [(14,0)] (by simp only[simprocAttr,-rR,-rS,qak,qah,qac,qaa])]
  simp (disch:=first|omega|decide|simp only[nmsB,lB]) only[simprocAttr,-rR,-rS,leB,memB,qaf,qae,qab,qad,qac,qaa]
  rfl
theorem qb5 (e:EqT) (z:Int) (m:Nat):binV .lss e (I z) (N m)=some (Bo (decide (z < (m:Int)))):=by rw[N,qc1]
theorem qcu (e:EqT) (z:Int) (m:Nat):binV .gtr e (I z) (N m)=some (Bo (decide ((m:Int) < z))):=by rw[N,I_gtr]
theorem qgk (e:EqT) (z:Int) (m:Nat):binV .geq e (I z) (N m)=some (Bo (decide ((m:Int)≤z))):=by rw[N,I_geq]
def PC (cs:qal):Prop := ∀ x ∈ cs,(∃ k n,x = .v (.int k n))∨∃ b,x = .v (.bool b)
theorem PC.nil:PC []:=fun _ h=>by cases h
theorem PC.int {cs:qal} (k:IntKind) (n:Int) (h:PC cs):PC (.v (.int k n)::cs):=fun x hx=>by
  rcases List.mem_cons.1 hx with rfl | hx
  · exact .inl ⟨k,n,rfl⟩
  · exact h x hx
theorem PC.boo {cs:qal} (b:Bool) (h:PC cs):PC (Bo b::cs):=fun x hx=>by
  rcases List.mem_cons.1 hx with rfl | hx
  · exact .inr ⟨b,rfl⟩
  · exact h x hx
theorem PC.I {cs:qal} (n:Int) (h:PC cs):PC (I n::cs):=h.int _ _
theorem PC.N {cs:qal} (n:Nat) (h:PC cs):PC (N n::cs):=h.int _ _
theorem PC.B64 {cs:qal} (n:BitVec 64) (h:PC cs):PC (B64 n::cs):=h.int _ _
theorem PC.app {a b:qal} (h:PC a) (h2:PC b):PC (a++b):=fun x hx=>(List.mem_append.1 hx).elim (h x) (h2 x)
theorem PC.bs (l:List (BitVec 8)):PC (bs l):=fun x hx=>by
  simp only[LE.bs,List.mem_map] at hx
  obtain ⟨y,_,rfl⟩:=hx
  exact .inl ⟨_,_,rfl⟩
theorem PC.nms {cs:qal} (h:PC cs) (d:Nat):cs.flatMap (nms (d+1))=[]:=by
  rw[List.flatMap_eq_nil_iff]; intro x hx
  rcases h x hx with ⟨k,n,rfl⟩ | ⟨b,rfl⟩ <;> rfl
theorem PC.ren {cs:qal} (h:PC cs) (d:Nat) (π:Nm→Option Nm):cs.map (ren (d+1) π)=cs:=by
  rw[List.map_congr_left (g:=id),List.map_id]
  intro x hx
  rcases h x hx with ⟨k,n,rfl⟩ | ⟨b,rfl⟩ <;> rfl
theorem PC.isCell {cs:qal} (h:PC cs):cs.all qaB=true:=by
  rw[List.all_eq_true]; intro x hx
  rcases h x hx with ⟨k,n,rfl⟩ | ⟨b,rfl⟩ <;> rfl
theorem PC.anms {cs:qal} (h:PC cs):LE.nms D (.agg cs)=[]:=h.nms 6
theorem PC.aren {cs:qal} (h:PC cs) (π:Nm→Option Nm):LE.ren D π (.agg cs) = .agg cs:=by
  show LV.agg (cs.map (LE.ren 7 π))=_
  rw[h.ren 6]
theorem PC.outOf {cs:qal} (h:PC cs) (st:St):qbY 0 st (.agg cs)=(.agg cs,[],[]):=qbB h.anms h.aren
theorem PC.calK {cs:qal} (h:PC cs) (b:Nat):calK b (some (.agg cs,[],[]))=some ⟨.agg cs,[],[]⟩:=qdD b fun _=>h.aren _
def EK (e:Int) (d t:List (BitVec 8)):qal:=I e::(bs d++bs t)
theorem qdZ (e:Int) (d t:List (BitVec 8)):PC (EK e d t) := .I _ (.app (.bs _) (.bs _))
theorem EK_k0 (e:Int) (d t:List (BitVec 8)):qaS 0 1 (some (EK e d t))=some [I e]:=rfl
theorem EK_len (e:Int) (d t:List (BitVec 8)) (hd:d.length=32) (ht:t.length=32):(EK e d t).length=65:=by
  simp only[EK,zE,zH,qaM,hd,ht]
theorem EK_all (e:Int) (d t:List (BitVec 8)) (hd:d.length=32) (ht:t.length=32):qaS 0 65 (some (EK e d t))=some (EK e d t):=by
  have h:=EK_len e d t hd ht
  rw[qaS,if_pos (by omega),zF,List.take_of_length_le (by omega)]
def mayE (e n:Int) (len:Nat):Nat:=if e < 1∨4294967295 < e∨n < 0∨1024≤n then 1 else if len=512 then 0 else 101
theorem may_F (k:Nat) (e n:Int) (d t b:List (BitVec 8)) (hb:b.length < 9223372036854775808):F C (k+1) 48 [.agg (EK e d t),I n,.isl (bs b) b.length] []=some (N (mayE e n b.length),[],[]):=by
  rw[qaH f48]
  have hp:=qdZ e d t
  by_cases h1:e < 1
  · have e1 : decide (e < 1) = true := by simpa using h1
    simp (disch:=first|omega|decide|simp only[nmsB,lB]) only[simprocAttr,-rR,-rS,leB,memB,arrB,numB,qaf,L48,hp.isCell,EK_k0,qb5,qcu,qgk,e1,qae,qab,qad,qac,qaa]
    rw[mayE,if_pos (.inl h1)]
  have e1:decide (e < 1)=false:=by simpa using h1
  by_cases h2:4294967295 < e
  · have e2 : decide (4294967295 < e) = true := by simpa using h2
    simp (disch:=first|omega|decide|simp only[nmsB,lB]) only[simprocAttr,-rR,-rS,leB,memB,arrB,numB,qaf,L48,hp.isCell,EK_k0,qb5,qcu,qgk,e1,e2,qae,qab,qad,qac,qaa]
    rw[mayE,if_pos (.inr (.inl h2))]
  have e2:decide (4294967295 < e)=false:=by simpa using h2
  by_cases h3:n < 0
  · have e3 : decide (n < 0) = true := by simpa using h3
    simp (disch:=first|omega|decide|simp only[nmsB,lB]) only[simprocAttr,-rR,-rS,leB,memB,arrB,numB,qaf,L48,hp.isCell,EK_k0,qb5,qcu,qgk,e1,e2,e3,qae,qab,qad,qac,qaa]
    rw[mayE,if_pos (.inr (.inr (.inl h3)))]
  have e3:decide (n < 0)=false:=by simpa using h3
  by_cases h4:1024≤n
  · have e4 : decide (1024 ≤ n) = true := by simpa using h4
    simp (disch:=first|omega|decide|simp only[nmsB,lB]) only[simprocAttr,-rR,-rS,leB,memB,arrB,numB,qaf,L48,hp.isCell,EK_k0,qb5,qcu,qgk,e1,e2,e3,e4,qae,qab,qad,qac,qaa]
    rw[mayE,if_pos (.inr (.inr (.inr h4)))]
  have e4:decide (1024≤n)=false:=by simpa using h4
  rw[mayE,if_neg (by omega)]
  by_cases h5:b.length=512
  · rw [h5]
    simp (disch:=first|omega|decide|simp only[nmsB,lB]) only[simprocAttr,-rR,-rS,leB,memB,arrB,numB,qaf,L48,hp.isCell,EK_k0,qb5,qcu,qgk,e1,e2,e3,e4,qae,qab,qad,qac,qaa]
  · simp (disch:=first|omega|decide|simp only[nmsB,lB]) only[simprocAttr,-rR,-rS,leB,memB,arrB,numB,qaf,L48,hp.isCell,EK_k0,qb5,qcu,qgk,e1,e2,e3,e4,h5,qae,qab,qad,qac,qaa]
end Sl
namespace Sl
open Go Go.LE Tb
open Sha (tagv qdY Lent qbq)
set_option maxRecDepth 20000
theorem call_new {K b g:Nat} (hg:qaJ g=fun _=>false) (H:Heap) {args:List LV} {l:List (BitVec 8)} {n c:Nat} (hn:args.flatMap (nms D)=[]) (hr:args.map (ren D (qaK []))=args)
    (hF:F C K g args []=some (.sl (1,0) 0 n (some c) 1,[],[bs l])):qar (envC C K) H b g args=some ⟨.sl (b,0) 0 n (some c) 1,[bs l],[]⟩:=by
  rw[Aes.qb4 K b g hg H args args [] [] [] _ hn rfl hr rfl hF,qaT]
  simp only[zB,zA,qaq,qaZ,zE,zL,qbd,zO,Nat.lt_one_iff,qa9,List.zipWith_nil_left]
theorem qg7 (k b n:Nat) (H:Heap):qar (envC C (k+1)) H b 23 [N n]=some ⟨.sl (b,0) 0 4 (some 4) 1,[bs (f4 n)],[]⟩:=call_new l23 H rfl rfl (four_F k n)
theorem qhN (k b n:Nat) (H:Heap):qar (envC C (k+1)) H b 25 [N n]=some ⟨.sl (b,0) 0 4 (some 4) 1,[bs (f4 n)],[]⟩:=call_new l25 H rfl rfl (rfour_F k n)
theorem qbJ (H:Heap) (n:Nm) (off len:Nat) (c:Option Nat) (cs:qal) (l:List (BitVec 8)) (h:H n=some cs) (hd:(cs.drop off).take len=bs l) (hl:l.length=len) (h0:len≠0):LentA H (.sl n off len c 1) l [n]:=by
  intro d
  simp only[snap,if_neg h0,h,zX,hd,snapL_bs,zC,hl]
theorem EK_t (e:Int) (d t:List (BitVec 8)) (hd:d.length=32) (ht:t.length=32):((EK e d t).drop 33).take 32=bs t:=by
  rw[EK,zd,List.drop_append_of_le_length (by rw[qaM]; omega),List.drop_of_length_le (by rw[qaM]; omega),zI,List.take_of_length_le (by rw[qaM]; omega)]
theorem EK_d (e:Int) (d t:List (BitVec 8)) (hd:d.length=32):((EK e d t).drop 1).take 32=bs d:=by
  rw[EK,zd,zF,List.take_append_of_le_length (by rw[qaM]; omega),List.take_of_length_le (by rw[qaM]; omega)]
theorem EK_k0N (e:Nat) (d t:List (BitVec 8)):qaS 0 1 (some (EK (e:Int) d t))=some [N e]:=rfl
def secL:List (BitVec 8):=[115#8,101#8,99#8,116#8,111#8,114#8]
def recM (e n:Nat) (b:List (BitVec 8)):List (BitVec 8):=secL++(f4 e++(f4 n++b))
def tagL (k m:List (BitVec 8)):List (BitVec 8):=(List.range 32).map (tagv k m)
theorem qbR (k m:List (BitVec 8)):(tagL k m).length=32:=by rw[tagL,zV,List.length_range]
theorem aB_tagL (k m:List (BitVec 8)):aB 32 (tagv k m)=bs (tagL k m):=qdt 32 _
def recL (e n:Nat) (t b:List (BitVec 8)):List (BitVec 8):=f4 e++(tagL t (recM e n b)++List.replicate 28 0#8)
theorem qcN (e n:Nat) (t b:List (BitVec 8)):(recL e n t b).length=64:=by
  rw[recL,zH,zH,qbR,List.length_replicate]; rfl
theorem rep64:List.replicate 64 (B8 0#8)=bs (List.replicate 64 0#8):=qeM 64 _
theorem qeX (e n:Nat) (t b:List (BitVec 8)):bs (recL e n t b)=aB 64 fun j=>(recL e n t b).getD j 0#8:=qe0 _ 64 (qcN e n t b)
theorem rec_cp (e n:Nat) (t b:List (BitVec 8)) (H:Heap) (h1:H (24,0)=some (bs (f4 e++tagL t (recM e n b)))) (h2:H (4,0)=some (aB 64 fun _=>0#8)) :
    cpK 1 H (.sl (4,0) 0 64 (some 64) 1) (.sl (24,0) 0 36 none 1) (some 36)=some ⟨N 36,[],[((4,0),some (aB 64 fun j=>(recL e n t b).getD j 0#8))]⟩:=by
  have hl:(f4 e++tagL t (recM e n b)).length=36:=by rw[zH,qbR]; rfl
  have hz:aB 64 (fun _=>0#8)=bs (List.replicate 64 0#8):=by rw[←qfG,rep64]
  rw[hz] at h2
  have hf:qbp H 1 (min 36 64) (.sl (24,0) 0 36 none 1)=some (bs (f4 e++tagL t (recM e n b))):=by
    rw[show min 36 64=36 from rfl,qbQ (24,0) 0 36 none _ h1 (by omega),zF,List.take_of_length_le (by omega)]
  rw[qeT 36 (4,0) 0 64 _ _ _ _ (by decide) hf h2 (by simp),hl,←qeX,recL,zW,zI,List.append_assoc]
  rfl
theorem record_F (k e n:Nat) (d t b:List (BitVec 8)) (hd:d.length=32) (ht:t.length=32) (hb:b.length=512) :
    F C (k+1300) 51 [.agg (EK e d t),N n,.isl (bs b) b.length] []=some (.agg (bs (recL e n t b)),[],[]):=by
  rw[qaH f51]
  have hp:=qdZ (e:Int) d t
  have hf:=fun (b n:Nat) H=>qg7 (k+1298) b n H
  simp (disch:=first|omega|decide|simp only[nmsB,lB]) only[simprocAttr,-rR,-rS,leB,memB,arrB,numB,qaf,ordB,qak,qan,qai,L51,hp.isCell,hp.nms,EK_k0N,hf,qab,qad,qac,qaa,qas,qah,qag]
  generalize hc:qar _ _ _ _ _=r
  have e1 := qdY (k := k + 1299) (L := [secL, f4 e, f4 n, b]) (key := t) hc ⟨[(2, 0)], qbJ _ (2, 0) 33 32 _ (EK (e : Int) d t) t rfl (EK_t _ d t hd ht) ht (by decide) 6, rfl⟩
    (snap_row _ (15,0) (some 4) [(.sl (7,0) 0 6 (some 6) 1,secL,[(7,0)]),(.sl (11,0) 0 4 (some 4) 1,f4 e,[(11,0)]),(.sl (13,0) 0 4 (some 4) 1,f4 n,[(13,0)]),(.isl (bs b) b.length,b,[])] (by
      intro p hp
      simp only[List.mem_cons,List.not_mem_nil,or_false] at hp
      rcases hp with rfl | rfl | rfl | rfl
      · exact qbJ _ (7,0) 0 6 _ _ secL rfl rfl rfl (by decide)
      · exact qbJ _ (11,0) 0 4 _ _ (f4 e) rfl rfl rfl (by decide)
      · exact qbJ _ (13,0) 0 4 _ _ (f4 n) rfl rfl rfl (by decide)
      · exact lentA_isl _ _) rfl (by simp)) (by omega) (by simp[secL,f4,hb]) (by simp) (by simp[secL,f4,hb,ht])
  subst e1
  clear hc
  have hl:[secL,f4 e,f4 n,b].flatten=recM e n b:=by simp[recM]
  rw[hl]
  have hap:appW 24 32 0 4 (bs ((List.range 32).map (tagv t (recM e n b)))) (some (bs (f4 e)))=some ⟨.sl (24,0) 0 36 none 1,[bs (f4 e++tagL t (recM e n b))],[]⟩:=by
    rw[appW_bs 32 0 4 (f4 e) _ (by simp[f4])]; rfl
  simp (disch:=first|omega|decide|simp only[nmsB,lB]) only[simprocAttr,-rR,-rS,leB,memB,arrB,numB,qaf,ordB,qak,qan,qai,hp.isCell,hp.nms,EK_k0N,hf,hap,qab,qad,qac,qaa,qas,qah,qag]
  rw[rec_cp e n t b _ rfl rfl]
  simp (disch:=first|omega|decide|simp only[nmsB,lB]) only[simprocAttr,-rR,-rS,leB,memB,arrB,numB,qaf,ordB,qak,qan,qai,qab,qad,qac,qaa,qas,qah,qag]
  rw[qeX]
end Sl
namespace Aes
open Go Go.LE Xf Tb
set_option maxRecDepth 20000
theorem c_xnew_of (g K b len:Nat) (hg:qaJ g 0=true) (H:Heap) (B:LV) (key:List (BitVec 8)) (lent:List Nm) (hs:snap H D B=some (.isl (bs key) key.length,lent)) (O:LV→qal)
    (hO:∀ r,(O r).all (qbP D)=qbP D r) (hOr:∀ π r,(O r).map (ren D π)=O (ren D π r)) (l1 l2:List (BitVec 8))
    (hF:F C K g [.isl (bs key) key.length] []=some (.tup [.ptr (1,0) 0,N 0],[],[[.ptr (1,1) 0,.ptr (1,3) 0],O (.sl (1,2) 0 len none 16),bs l1,O (.sl (1,4) 0 len none 16),bs l2])) :
    qar (envC C K) H b g [B]=some ⟨.tup [.ptr (b,0) 0,N 0],[[.ptr (b,1) 0,.ptr (b,3) 0],O (.sl (b,2) 0 len none 16),bs l1,O (.sl (b,4) 0 len none 16),bs l2],[]⟩:=by
  have hlend:lend H ((envC C K).borrow g) 0 [B]=some ([.isl (bs key) key.length],lent):=by
    rw[qbo,qcC,qbF,qc3,if_pos hg,hs,qbc,zD]
  have hn:([.isl (bs key) key.length]:List LV).flatMap (nms D)=[]:=by
    simp only[zK,zN,qbg,zD]
  have ha:([.isl (bs key) key.length]:List LV).map (ren D (qaK []))=[.isl (bs key) key.length]:=by
    simp only[zB,zA,qbj]
  have hp:qa5 (.tup [.ptr (1,0) 0,N 0],[],[[.ptr (1,1) 0,.ptr (1,3) 0],O (.sl (1,2) 0 len none 16),bs l1,O (.sl (1,4) 0 len none 16),bs l2])=true:=by
    simp only[qa5,List.all_nil,zT,hO,qcD]; rfl
  have hl:lent.any (fun n=>([]:List Nm).contains n)=false:=by simp
  rw[qbU,hlend,qbA,hn,show qa7 H FUEL [] []=[] from rfl,qbV _ _ _ _ _ hl,ha,zQ,zA,qbT,hF,qcs _ _ _ _ hp,qaT]
  simp only[zB,zA,hOr,qaq,qaZ,qbk,zE,zL,qbd,zO,Nat.reduceAdd,Nat.reduceLT,qa9,qbs,List.zipWith_nil_left,zG]
  rfl
theorem c_xnew (k n b:Nat) (hn:n=4∨n=8) (H:Heap) (B:LV) (key:List (BitVec 8)) (hk:key.length=8*n) (lent:List Nm) (hs:snap H D B=some (.isl (bs key) key.length,lent)) :
    qar (envC C (k+401)) H b 49 [B]=some ⟨.tup [.ptr (b,0) 0,N 0],[[.ptr (b,1) 0,.ptr (b,3) 0],CF (.sl (b,2) 0 (n+7) none 16) TB,bs (W n (key.take (4*n))),CF (.sl (b,4) 0 (n+7) none 16) TB,bs (W n (key.drop (4*n)))],[]⟩ :=
  c_xnew_of 49 _ b (n+7) (by decide) H B key lent hs (fun r=>CF r TB) (fun r=>qgE r _) (fun π r=>qaV π r _) _ _ (xnew_F k n hn key hk)
theorem mk_z (b l:Nat) (h:l < 1048576):mkK b 1 1 [B8 0#8] (some l) (some l)=some ⟨.sl (b,0) 0 l (some l) 1,[bs (List.replicate l 0#8)],[]⟩:=by
  rw[mkK,if_pos ⟨Nat.le_refl l,by omega,by omega,rfl⟩]
  congr 3
  rw[←qeM]
  clear h
  induction l with
  | zero=>rfl
  | succ l ih=>rw[List.replicate_succ,List.flatten_cons,ih,List.replicate_succ]; rfl
end Aes
namespace Sl
open Go Go.LE Tb
open Sha (tagv qdY Lent qbq)
set_option maxRecDepth 20000
theorem call_l3 {K b g:Nat} (h0:qaJ g 0=false) (h1:qaJ g 1=false) (h2:qaJ g 2=true) {H:Heap} {a x B:LV} {bb:List (BitVec 8)} (hB:Lent H B bb [])
    (ha:nms D a=[]) (hx:nms D x=[]) (ra:∀ π,ren D π a=a) (rx:∀ π,ren D π x=x) {res:qcg} (hp:qa5 res=true)
    (hF:F C K g [a,x,.isl (bs bb) bb.length] []=some res):qar (envC C K) H b g [a,x,B]=some (qcG [] b res):=by
  obtain ⟨lent,hs,hl⟩:=hB
  have hlend:lend H ((envC C K).borrow g) 0 [a,x,B]=some ([a,x,.isl (bs bb) bb.length],lent):=by
    rw[qbo,qbo,qbo,qcC,qbF,qc3,h0,if_neg (by decide),h1,if_neg (by decide),if_pos h2,hs,qbc,qbc,qbc,zI,zI,zD]
  rw [qbU, hlend, qbA, show ([a, x, .isl (bs bb) bb.length] : List LV).flatMap (nms D) = [] by simp only [zK, zN, qbg, ha, hx, zD],
    show qa7 H FUEL [] []=[] from rfl,qbV _ _ _ _ _ hl,show ([a,x,.isl (bs bb) bb.length]:List LV).map (ren D (qaK []))=[a,x,.isl (bs bb) bb.length] by simp only[zB,zA,qbj,ra,rx],
    zQ,zA,qbT,hF,Sha.qcs _ _ _ _ hp]
theorem plain_v (v:LV) (h:qbP D v=true):qa5 (v,[],[])=true:=by simp[qa5,h]
theorem noImm_PC {cs:qal} (h:PC cs):qbP D (.agg cs)=true:=by
  show cs.all (qbP 7)=true
  rw[List.all_eq_true]; intro x hx
  rcases h x hx with ⟨k,n,rfl⟩ | ⟨b,rfl⟩ <;> rfl
theorem may_call (k b:Nat) (H:Heap) (e n:Int) (d t:List (BitVec 8)) (B:LV) (bb:List (BitVec 8)) (hB:Lent H B bb []) (hb:bb.length < 9223372036854775808) :
    qar (envC C (k+1)) H b 48 [.agg (EK e d t),I n,B]=some ⟨N (mayE e n bb.length),[],[]⟩ :=
  call_l3 rfl rfl rfl hB (qdZ e d t).anms rfl (qdZ e d t).aren (fun _=>rfl) rfl (may_F k e n d t bb hb)
theorem qhm (k b e n:Nat) (H:Heap) (d t:List (BitVec 8)) (hd:d.length=32) (ht:t.length=32) (B:LV) (bb:List (BitVec 8)) (hB:Lent H B bb []) (hb:bb.length=512) :
    qar (envC C (k+1300)) H b 51 [.agg (EK e d t),N n,B]=some ⟨.agg (bs (recL e n t bb)),[],[]⟩:=by
  rw[call_l3 rfl rfl rfl hB (qdZ e d t).anms rfl (qdZ e d t).aren (fun _=>rfl) (plain_v _ (noImm_PC (.bs _))) (record_F k e n d t bb hd ht hb),qaT,(PC.bs _).aren]
  rfl
def qcy (d:List (BitVec 8)) (n:Nat) (p:List (BitVec 8)):List (BitVec 8) :=
  Aes.qbI (Aes.enc (Aes.kf (Aes.W 4 (d.take 16))) 9) (Aes.tw0 9 (Aes.W 4 (d.drop 16)) (BitVec.ofNat 64 n)) p false
theorem sealed_length (d:List (BitVec 8)) (n:Nat) (p:List (BitVec 8)) (h:p.length=512):(qcy d n p).length=512:=by
  rw[qcy,Aes.qfJ _ _ _ _ (by omega),h]
theorem c_xnew (k b:Nat) (H:Heap) (B:LV) (key:List (BitVec 8)) (hk:key.length=32) (lent:List Nm) (hs:snap H D B=some (.isl (bs key) key.length,lent)) :
    qar (envC C (k+401)) H b 49 [B]=some ⟨.tup [.ptr (b,0) 0,N 0],[[.ptr (b,1) 0,.ptr (b,3) 0],Aes.CF (.sl (b,2) 0 11 none 16) Aes.TB,bs (Aes.W 4 (key.take 16)),Aes.CF (.sl (b,4) 0 11 none 16) Aes.TB,bs (Aes.W 4 (key.drop 16))],[]⟩ :=
  Aes.c_xnew k 4 b (.inl rfl) H B key hk lent hs
def tat (x z:LV):Option LV→Option LV
  | some a=>some (.tup [x,a,z])
  | none=>none
theorem tat_some (x z a:LV):tat x z (some a)=some (.tup [x,a,z]):=rfl
theorem resVal_tat (tm:List LV) (H:Heap) (t u n w nx np:Nat):qcO ⟨tm,H,nx,np⟩ [.tmp t,.agg u n,.tmp w]=tat (tm.getD t .undef) (tm.getD w .undef) (aggV (qb6 H n (tm.getD u .undef))):=by
  simp only[qcO,zB,zA,qev]
  cases qb6 H n (tm.getD u .undef) <;> rfl
theorem PC.n7 {cs:qal} (h:PC cs):LE.nms 7 (.agg cs)=[]:=h.nms 5
theorem PC.r7 {cs:qal} (h:PC cs) (π:Nm→Option Nm):LE.ren 7 π (.agg cs) = .agg cs:=by
  show LV.agg (cs.map (LE.ren 6 π))=_
  rw[h.ren 5]
theorem out_tat (tm:List LV) (H:Heap) (nx m n z:Nat) (c:Option Nat) {cs:qal} (hc:PC cs) (l:List (BitVec 8)) (hm:m≠0) (h:H (m,0)=some (bs l)) :
    some (qbY 0 ⟨tm,H,nx,0⟩ (.tup [.sl (m,0) 0 n c 1,.agg cs,N z]))=some (.tup [.sl (1,0) 0 n c 1,.agg cs,N z],[],[bs l]):=by
  refine Aes.qbK (names:=[(m,0)]) (Aes.qef (l:=[(m,0)]) (ns:=[(m,0)]) ?_ ((Aes.qaA rfl h (qam l)).trans (qba _ _ _)) (by simp[hm])) ?_
  · simp only[List.range_zero,zA,zI,zK,zN,qdx,hc.n7,qd0,zD]; rfl
  · have e : qbm [(m, 0)] (m, 0) = some (1, 0) := by rw [qf0 _ _ _ hm]; simp [idx]
    have e2:ren 7 (qbm [(m,0)]) (.sl (m,0) 0 n c 1) = .sl (1,0) 0 n c 1:=by simp only[ren,e]
    simp only[List.range_zero,zA,qb0,zB,hc.r7,qc8,e2,List.filterMap_cons,zQ,h,qaq]
theorem out_st (tm:List LV) (H:Heap) (nx m n z:Nat) (c:Option Nat) (l:List (BitVec 8)) (hm:m≠0) (h:H (m,0)=some (bs l)) :
    some (qbY 0 ⟨tm,H,nx,0⟩ (.tup [.sl (m,0) 0 n c 1,N z]))=some (.tup [.sl (1,0) 0 n c 1,N z],[],[bs l]):=by
  refine Aes.qbK (names:=[(m,0)]) (Aes.qef (l:=[(m,0)]) (ns:=[(m,0)]) ?_ ((Aes.qaA rfl h (qam l)).trans (qba _ _ _)) (by simp[hm])) ?_
  · simp only[List.range_zero,zA,zI,zK,zN,qdx,qd0,zD]; rfl
  · have e : qbm [(m, 0)] (m, 0) = some (1, 0) := by rw [qf0 _ _ _ hm]; simp [idx]
    have e2:ren 7 (qbm [(m,0)]) (.sl (m,0) 0 n c 1) = .sl (1,0) 0 n c 1:=by simp only[ren,e]
    simp only[List.range_zero,zA,qb0,zB,qc8,e2,List.filterMap_cons,zQ,h,qaq]
theorem PC.aB (n:Nat) (f:Nat→BitVec 8):PC (aB n f):=by rw[qdt]; exact .bs _
theorem n7_sl (m:Nm) (a b:Nat) (c:Option Nat) (d:Nat):nms 7 (.sl m a b c d)=[m]:=rfl
theorem Seal_F (k e n:Nat) (d t p:List (BitVec 8)) (hd:d.length=32) (ht:t.length=32) (hp:p.length=512) (hm:mayE e n 512=0) :
    F C (k+6000) 27 [.agg (EK e d t),N n,.isl (bs p) p.length] []=some (.tup [.sl (1,0) 0 512 none 1,.agg (bs (recL e n t (qcy d n p))),N 0],[],[bs (qcy d n p)]):=by
  rw[qaH f27]
  have hpc:=qdZ e d t
  have hc:∀ b H,qar (envC C (k+5999)) H b 48 [.agg (EK e d t),N n,.isl (bs p) p.length]=some ⟨N 0,[],[]⟩:=fun b H=>by
    have h:=may_call (k+5998) b H e n d t _ p (qbq _ _ _) (by omega)
    rw[hp,hm] at h
    rw[hp]; exact h
  simp (disch:=first|omega|decide|simp only[nmsB,lB]) only[simprocAttr,-rR,-rS,leB,memB,arrB,numB,qaf,opsB,qan,qai,L27,hpc.isCell,EK_all e d t hd ht,hc,qab,qad,qac,qaa,qag]
  rw[c_xnew (k+5598) _ _ _ d hd [(2,0)] (qbJ _ (2,0) 1 32 _ (EK e d t) d rfl (EK_d _ d t hd) hd (by decide) 6)]
  simp (disch:=first|omega|decide|simp only[nmsB,lB]) only[simprocAttr,-rR,-rS,leB,memB,arrB,numB,qaf,opsB,qan,qai,hpc.isCell,EK_all e d t hd ht,qab,qad,qac,qaa,qag]
  generalize hG:upd _ (15,4) _=G
  have X:Aes.XG G (15,0) (15,1) (15,2) (15,3) (15,4) 9 (Aes.W 4 (d.take 16)) (Aes.W 4 (d.drop 16)):=by rw[←hG]; exact ⟨rfl,rfl,rfl,rfl,rfl,by decide⟩
  have g2:G (2,0)=some (EK e d t):=by rw[←hG]; rfl
  have g4:G (4,0)=some (aB 64 fun _=>0#8):=by rw[←hG]; rfl
  clear hG
  have l1:(Aes.W 4 (d.take 16)).length=16*(9+2):=Aes.qgD 4 _ (by rw[zU,hd] <;> rfl)
  have l2:(Aes.W 4 (d.drop 16)).length=16*(9+2):=Aes.qgD 4 _ (by rw[zR,hd])
  have he:=Aes.c_enI (k+5999) 50 9 27 l50 G (15,0) (15,1) (15,2) (15,3) (15,4) _ _ X (BitVec.ofNat 64 n) p _ p.length (Aes.encr23I_F (k+996) 9 (by decide) _ _ l1 l2 (BitVec.ofNat 64 n) p (by omega) (by omega) (by omega))
  rw[show Aes.qbI (Aes.enc (Aes.kf (Aes.W 4 (d.take 16))) 9) (Aes.tw0 9 (Aes.W 4 (d.drop 16)) (BitVec.ofNat 64 n)) p false=qcy d n p from rfl,hp] at he
  have hs:=X.same
  have hsl:=sealed_length d n p hp
  rw[hp]
  simp (disch:=first|omega|decide|simp only[nmsB,lB]) only[simprocAttr,-rR,-rS,leB,memB,arrB,numB,qaf,opsB,qan,qai,he,hs,g2,g4,EK_all e d t hd ht,qab,qad,qac,qaa,qag]
  rw[qhm (k+4699) _ e n _ d t hd ht _ (qcy d n p) (by
    have h:=Sha.qem (upd G (27,0) (some (bs (qcy d n p)))) (27,0) 0 512 none (qcy d n p) [] rfl (by omega) rfl
    rwa [zF,List.take_of_length_le (by omega)] at h) hsl,qeX]
  simp (disch:=first|omega|decide|simp only[nmsB,lB]) only[simprocAttr,-rR,-rS,leB,memB,arrB,numB,qaf,opsB,qan,qai,g4,resVal_tat,tat_some,zC,qab,qad,qac,qaa,qag]
  exact out_tat _ _ _ 27 512 0 none (.aB _ _) (qcy d n p) (by decide) rfl
end Sl
namespace Sl
open Go Go.LE Tb
open Sha (tagv qdY Lent qbq)
set_option maxRecDepth 20000
def qcZ (d:List (BitVec 8)) (n:Nat) (p:List (BitVec 8)):List (BitVec 8) :=
  Aes.qbI (Aes.dec (Aes.kf (Aes.W 4 (d.take 16))) 9) (Aes.tw0 9 (Aes.W 4 (d.drop 16)) (BitVec.ofNat 64 n)) p true
theorem opened_length (d:List (BitVec 8)) (n:Nat) (p:List (BitVec 8)) (h:p.length=512):(qcZ d n p).length=512:=by
  rw[qcZ,Aes.qfJ _ _ _ _ (by omega),h]
theorem opened_sealed (d:List (BitVec 8)) (n:Nat) (p:List (BitVec 8)) (h:p.length=512):qcZ d n (qcy d n p)=p :=
  Aes.unit_inv (Aes.inv_aes _ 9) _ p false (by omega)
theorem Open_F (k e n:Nat) (d t p:List (BitVec 8)) (r:Nat→BitVec 8) (hd:d.length=32) (ht:t.length=32) (hp:p.length=512) (hm:mayE e n 512=0) :
    F C (k + 6000) 29 [.agg (EK e d t), N n, .isl (bs p) p.length, .agg (aB 64 r)] [] =
      if (List.range 64).map r=recL e n t p then some (.tup [.sl (1,0) 0 512 none 1,N 0],[],[bs (qcZ d n p)]) else some (.tup [Nil,N 160],[],[]):=by
  rw[qaH f29]
  have hpc:=qdZ e d t
  have hc:∀ b H,qar (envC C (k+5999)) H b 48 [.agg (EK e d t),N n,.isl (bs p) p.length]=some ⟨N 0,[],[]⟩:=fun b H=>by
    have h:=may_call (k+5998) b H e n d t _ p (qbq _ _ _) (by omega)
    rw[hp,hm] at h
    rw[hp]; exact h
  have hr:∀ b H,qar (envC C (k+5999)) H b 51 [.agg (EK e d t),N n,.isl (bs p) p.length]=some ⟨.agg (aB 64 fun j=>(recL e n t p).getD j 0#8),[],[]⟩:=fun b H=>by
    rw[qhm (k+4699) b e n H d t hd ht _ p (qbq _ _ _) hp,qeX]
  simp (disch:=first|omega|decide|simp only[nmsB,lB]) only[simprocAttr,-rR,-rS,leB,memB,arrB,numB,qaf,opsB,ordB,qak,qan,qai,L29,hpc.isCell,EK_all e d t hd ht,hc,hr,qab,qad,qac,qaa,qas,qah,qag]
  have hq : ∀ (b : Nat) (H : Heap), H (17, 0) = some (aB 64 fun j => (recL e n t p).getD j 0#8) → H (3, 0) = some (aB 64 r) →
      qar (envC C (k+5999)) H b 35 [.sl (17,0) 0 64 (some 64) 1,.sl (3,0) 0 64 (some 64) 1]=some ⟨Bo (decide (recL e n t p=(List.range 64).map r)),[],[]⟩:=fun b H h1 h2 =>
    Sha.qeO (k + 5999) b H _ _ (recL e n t p) ((List.range 64).map r)
      ⟨[(17,0)],qbJ H (17,0) 0 64 _ _ (recL e n t p) h1 (by rw[←qeX,zF,List.take_of_length_le (by rw[qaM,qcN]; omega)]) (qcN _ _ _ _) (by decide) 6,rfl⟩
      ⟨[(3,0)],qbJ H (3,0) 0 64 _ _ ((List.range 64).map r) h2 (by rw[←qdt,zF,List.take_of_length_le (by rw[qbX]; omega)]) (by simp) (by decide) 6,rfl⟩
      (by rw[qcN]; decide) (by simp) (by rw[qcN]; simp)
  rw[hq _ _ rfl rfl]
  by_cases h:(List.range 64).map r=recL e n t p
  · have hd1 : decide (recL e n t p = (List.range 64).map r) = true := decide_eq_true h.symm
    rw[if_pos h]
    simp (disch:=first|omega|decide|simp only[nmsB,lB]) only[simprocAttr,-rR,-rS,leB,memB,arrB,numB,qaf,opsB,ordB,qak,qan,qai,hd1,qab,qad,qac,qaa,qas,qah,qag]
    rw[c_xnew (k+5598) _ _ _ d hd [(2,0)] (qbJ _ (2,0) 1 32 _ (EK e d t) d rfl (EK_d _ d t hd) hd (by decide) 6)]
    simp (disch:=first|omega|decide|simp only[nmsB,lB]) only[simprocAttr,-rR,-rS,leB,memB,arrB,numB,qaf,opsB,qan,qai,qab,qad,qac,qaa,qag]
    generalize hG:upd _ (25,4) _=G
    have X:Aes.XG G (25,0) (25,1) (25,2) (25,3) (25,4) 9 (Aes.W 4 (d.take 16)) (Aes.W 4 (d.drop 16)):=by rw[←hG]; exact ⟨rfl,rfl,rfl,rfl,rfl,by decide⟩
    clear hG
    have l1:(Aes.W 4 (d.take 16)).length=16*(9+2):=Aes.qgD 4 _ (by rw[zU,hd] <;> rfl)
    have l2:(Aes.W 4 (d.drop 16)).length=16*(9+2):=Aes.qgD 4 _ (by rw[zR,hd])
    have he:=Aes.c_enI (k+5999) 52 9 37 l52 G (25,0) (25,1) (25,2) (25,3) (25,4) _ _ X (BitVec.ofNat 64 n) p _ p.length (Aes.encr26I_F (k+996) 9 (by decide) _ _ l1 l2 (BitVec.ofNat 64 n) p (by omega) (by omega) (by omega))
    rw[show Aes.qbI (Aes.dec (Aes.kf (Aes.W 4 (d.take 16))) 9) (Aes.tw0 9 (Aes.W 4 (d.drop 16)) (BitVec.ofNat 64 n)) p true=qcZ d n p from rfl,hp] at he
    have hs:=X.same
    have hsl:=opened_length d n p hp
    rw[hp]
    simp (disch:=first|omega|decide|simp only[nmsB,lB]) only[simprocAttr,-rR,-rS,leB,memB,arrB,numB,qaf,opsB,qan,qai,he,hs,zC,qab,qad,qac,qaa,qag]
    exact out_st _ _ _ 37 512 0 none (qcZ d n p) (by decide) rfl
  · have hd1 : decide (recL e n t p = (List.range 64).map r) = false := decide_eq_false (Ne.symm h)
    rw[if_neg h]
    simp (disch:=first|omega|decide|simp only[nmsB,lB]) only[simprocAttr,-rR,-rS,leB,memB,arrB,numB,qaf,opsB,ordB,qak,qan,qai,hd1,qab,qad,qac,qaa,qas,qah,qag]
    rw[qbB rfl (fun _=>rfl)]
end Sl
namespace Sl
open Go Go.LE Tb
open Sha (tagv Lent qbq)
set_option maxRecDepth 20000
def pfx (L:List (BitVec 8)) (i:Nat):Nat→BitVec 8:=fun j=>if j < i then L.getD j 0#8 else 0#8
theorem pfx_succ (L:List (BitVec 8)) (i:Nat):set1 (pfx L i) i (L.getD i 0#8)=pfx L (i+1):=by
  funext j
  simp only[set1,pfx]
  by_cases h:j=i
  · subst h; rw[if_pos rfl,if_pos (by omega)]
  · rw [if_neg h]
    by_cases h2:j < i
    · rw[if_pos h2,if_pos (by omega)]
    · rw[if_neg h2,if_neg (by omega)]
theorem pfx_0 (L:List (BitVec 8)):pfx L 0=fun _=>0#8:=funext fun j=>if_neg (Nat.not_lt_zero j)
end Sl
namespace Sl
open Go Go.LE Tb
open Sha (Lent qbq)
set_option maxRecDepth 20000
theorem same_rec (L:List (BitVec 8)) (r:Nat→BitVec 8) (h:L.length=64):qdw 64 (fun j=>L.getD j 0#8) r=decide ((List.range 64).map r=L):=by
  rw[Bool.eq_iff_iff,aB_same_iff,decide_eq_true_iff]
  constructor
  · intro hh
    apply List.ext_getElem (by simp[h])
    intro i h1 h2
    have:=hh i (by omega)
    rw[List.getD_eq_getElem?_getD,List.getElem?_eq_getElem h2] at this
    simpa using this.symm
  · rintro rfl i hi
    simp[hi]
end Sl
