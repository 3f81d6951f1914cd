/- seal: numbers in four bytes, what may be qby, evaluated. -/
import Derived.Test.YtbdjmicabfclcaaGreatDoorLeH
import Derived.Test.YtbdjmicabfclcaaGreatDoorLeY
import Derived.Test.YtbdjmicabfclcaaGreatDoorLeS
import Derived.Test.YtbdjmicabfclcaaGreatDoorLeZ
set_option linter.unusedVariables false
set_option linter.unusedSimpArgs false
open List renaming reduceReplicate → rR
open Nat renaming reduceSubDiff → rS
namespace Sl
open Go Go.LE Tb
set_option maxRecDepth 20000
theorem N_shr64 (e:EqT) (a:Nat) (z:BitVec 64) (hz:z.toNat < 64):binV .shr e (N a) (B64 z)=some (N (a / 2 ^ z.toNat)):=by
  show (binI .shr .i64 (a:Int) .u64 (z.toNat:Int)).map LV.v=_
  have h:¬ ((z.toNat:Int) < 0):=by omega
  simp only[binI,if_neg h,zC]
  have h2:min ((z.toNat:Int)).toNat (IntKind.bits .i64)=z.toNat:=by
    rw[Int.toNat_natCast]; exact Nat.min_eq_left (by have:IntKind.bits .i64=64:=rfl; omega)
  rw[h2]
  have h3:Int.fdiv (a:Int) (2 ^ z.toNat)=((a / 2 ^ z.toNat:Nat):Int):=by
    rw[Int.fdiv_eq_ediv_of_nonneg _ (by exact_mod_cast Nat.zero_le _)]
    push_cast
    rfl
  rw[h3]
  rfl
def f4 (n:Nat):List (BitVec 8):=[BitVec.ofNat 8 n,BitVec.ofNat 8 (n / 256),BitVec.ofNat 8 (n / 65536),BitVec.ofNat 8 (n / 16777216)]
theorem four_F (k n:Nat):F C (k+1) 38 [N n] []=some (.sl (1,0) 0 4 (some 4) 1,[],[bs (f4 n)]):=by
  rw[qaL f38]
  simp (disch:=first|omega|decide|simp only[nmsB,lB]) only[simprocAttr,-rR,-rS,leB,memB,arrB,numB,qaf,L38,N_shr64,qae,qac,qad,qab,qaa]
  rw[qa0 0 _ _ [(14,0)] (by simp only[simprocAttr,-rR,-rS,qaj,qag,qab,qaa])]
  simp (disch:=first|omega|decide|simp only[nmsB,lB]) only[simprocAttr,-rR,-rS,leB,memB,qaf,qae,qac,qad,qab,qaa]
  rfl
theorem rfour_F (k n:Nat):F C (k+1) 30 [N n] []=some (.sl (1,0) 0 4 (some 4) 1,[],[bs (f4 n)]):=by
  rw[qaL f30]
  simp (disch:=first|omega|decide|simp only[nmsB,lB]) only[simprocAttr,-rR,-rS,leB,memB,arrB,numB,qaf,L30,N_shr64,qae,qac,qad,qab,qaa]
  rw[qa0 0 _ _ [(14,0)] (by simp only[simprocAttr,-rR,-rS,qaj,qag,qab,qaa])]
  simp (disch:=first|omega|decide|simp only[nmsB,lB]) only[simprocAttr,-rR,-rS,leB,memB,qaf,qae,qac,qad,qab,qaa]
  rfl
theorem qez (e:EqT) (z:Int) (m:Nat):binV .lss e (I z) (N m)=some (Bo (decide (z < (m:Int)))):=by rw[N,I_lss]
theorem I_leqN (e:EqT) (z:Int) (m:Nat):binV .leq e (I z) (N m)=some (Bo (decide (z≤(m:Int)))):=by rw[N,I_leq]
theorem qg4 (e:EqT) (z:Int) (m:Nat):binV .gtr e (I z) (N m)=some (Bo (decide ((m:Int) < z))):=by rw[N,I_gtr]
theorem qeA (e:EqT) (z:Int) (m:Nat):binV .geq e (I z) (N m)=some (Bo (decide ((m:Int)≤z))):=by rw[N,I_geq]
def PC (cs:qan):Prop := ∀ x ∈ cs,(∃ k n,x = .v (.int k n))∨∃ b,x = .v (.bool b)
theorem PC.nil:PC []:=fun _ h=>by cases h
theorem PC.int {cs:qan} (k:IntKind) (n:Int) (h:PC cs):PC (.v (.int k n)::cs):=fun x hx=>by
  rcases List.mem_cons.1 hx with rfl | hx
  · exact .inl ⟨k,n,rfl⟩
  · exact h x hx
theorem PC.boo {cs:qan} (b:Bool) (h:PC cs):PC (Bo b::cs):=fun x hx=>by
  rcases List.mem_cons.1 hx with rfl | hx
  · exact .inr ⟨b,rfl⟩
  · exact h x hx
theorem PC.I {cs:qan} (n:Int) (h:PC cs):PC (I n::cs):=h.int _ _
theorem PC.N {cs:qan} (n:Nat) (h:PC cs):PC (N n::cs):=h.int _ _
theorem PC.B64 {cs:qan} (n:BitVec 64) (h:PC cs):PC (B64 n::cs):=h.int _ _
theorem PC.app {a b:qan} (h:PC a) (h2:PC b):PC (a++b):=fun x hx=>(List.mem_append.1 hx).elim (h x) (h2 x)
theorem PC.bs (l:List (BitVec 8)):PC (bs l):=fun x hx=>by
  simp only[LE.bs,List.mem_map] at hx
  obtain ⟨y,_,rfl⟩:=hx
  exact .inl ⟨_,_,rfl⟩
theorem PC.nms {cs:qan} (h:PC cs) (d:Nat):cs.flatMap (nms (d+1))=[]:=by
  rw[List.flatMap_eq_nil_iff]; intro x hx
  rcases h x hx with ⟨k,n,rfl⟩ | ⟨b,rfl⟩ <;> rfl
theorem PC.ren {cs:qan} (h:PC cs) (d:Nat) (π:Nm→Option Nm):cs.map (ren (d+1) π)=cs:=by
  rw[List.map_congr_left (g:=id),List.map_id]
  intro x hx
  rcases h x hx with ⟨k,n,rfl⟩ | ⟨b,rfl⟩ <;> rfl
theorem PC.isCell {cs:qan} (h:PC cs):cs.all qaQ=true:=by
  rw[List.all_eq_true]; intro x hx
  rcases h x hx with ⟨k,n,rfl⟩ | ⟨b,rfl⟩ <;> rfl
theorem PC.anms {cs:qan} (h:PC cs):LE.nms D (.agg cs)=[]:=h.nms 6
theorem PC.aren {cs:qan} (h:PC cs) (π:Nm→Option Nm):LE.ren D π (.agg cs) = .agg cs:=by
  show LV.agg (cs.map (LE.ren 7 π))=_
  rw[h.ren 6]
theorem PC.outOf {cs:qan} (h:PC cs) (st:St):qcb 0 st (.agg cs)=(.agg cs,[],[]):=qbH h.anms h.aren
theorem PC.calK {cs:qan} (h:PC cs) (b:Nat):calK b (some (.agg cs,[],[]))=some ⟨.agg cs,[],[]⟩:=qdB b fun _=>h.aren _
def EK (e:Int) (d t:List (BitVec 8)):qan:=I e::(bs d++bs t)
theorem qb6 (e:Int) (d t:List (BitVec 8)):PC (EK e d t) := .I _ (.app (.bs _) (.bs _))
theorem qfl (e:Int) (d t:List (BitVec 8)):qbc 0 1 (some (EK e d t))=some [I e]:=rfl
theorem EK_len (e:Int) (d t:List (BitVec 8)) (hd:d.length=32) (ht:t.length=32):(EK e d t).length=65:=by
  simp only[EK,zH,zJ,qaV,hd,ht]
theorem qca (e:Int) (d t:List (BitVec 8)) (hd:d.length=32) (ht:t.length=32):qbc 0 65 (some (EK e d t))=some (EK e d t):=by
  have h:=EK_len e d t hd ht
  rw[qbc,if_pos (by omega),zE,List.take_of_length_le (by omega)]
def mayE (e n:Int) (len:Nat):Nat:=if e < 1∨4294967295 < e∨n < 0∨1024≤n then 1 else if len=512 then 0 else 101
theorem may_F (k:Nat) (e n:Int) (d t b:List (BitVec 8)) (hb:b.length < 9223372036854775808):F C (k+1) 14 [.agg (EK e d t),I n,.isl (bs b) b.length] []=some (N (mayE e n b.length),[],[]):=by
  rw[qaL f14]
  have hp:=qb6 e d t
  by_cases h1:e < 1
  · have e1 : decide (e < 1) = true := by simpa using h1
    simp (disch:=first|omega|decide|simp only[nmsB,lB]) only[simprocAttr,-rR,-rS,leB,memB,arrB,numB,qaf,L14,hp.isCell,qfl,qez,qg4,qeA,e1,qae,qac,qad,qab,qaa]
    rw[mayE,if_pos (.inl h1)]
  have e1:decide (e < 1)=false:=by simpa using h1
  by_cases h2:4294967295 < e
  · have e2 : decide (4294967295 < e) = true := by simpa using h2
    simp (disch:=first|omega|decide|simp only[nmsB,lB]) only[simprocAttr,-rR,-rS,leB,memB,arrB,numB,qaf,L14,hp.isCell,qfl,qez,qg4,qeA,e1,e2,qae,qac,qad,qab,qaa]
    rw[mayE,if_pos (.inr (.inl h2))]
  have e2:decide (4294967295 < e)=false:=by simpa using h2
  by_cases h3:n < 0
  · have e3 : decide (n < 0) = true := by simpa using h3
    simp (disch:=first|omega|decide|simp only[nmsB,lB]) only[simprocAttr,-rR,-rS,leB,memB,arrB,numB,qaf,L14,hp.isCell,qfl,qez,qg4,qeA,e1,e2,e3,qae,qac,qad,qab,qaa]
    rw[mayE,if_pos (.inr (.inr (.inl h3)))]
  have e3:decide (n < 0)=false:=by simpa using h3
  by_cases h4:1024≤n
  · have e4 : decide (1024 ≤ n) = true := by simpa using h4
    simp (disch:=first|omega|decide|simp only[nmsB,lB]) only[simprocAttr,-rR,-rS,leB,memB,arrB,numB,qaf,L14,hp.isCell,qfl,qez,qg4,qeA,e1,e2,e3,e4,qae,qac,qad,qab,qaa]
    rw[mayE,if_pos (.inr (.inr (.inr h4)))]
  have e4:decide (1024≤n)=false:=by simpa using h4
  rw[mayE,if_neg (by omega)]
  by_cases h5:b.length=512
  · rw [h5]
    simp (disch:=first|omega|decide|simp only[nmsB,lB]) only[simprocAttr,-rR,-rS,leB,memB,arrB,numB,qaf,L14,hp.isCell,qfl,qez,qg4,qeA,e1,e2,e3,e4,qae,qac,qad,qab,qaa]
  · simp (disch:=first|omega|decide|simp only[nmsB,lB]) only[simprocAttr,-rR,-rS,leB,memB,arrB,numB,qaf,L14,hp.isCell,qfl,qez,qg4,qeA,e1,e2,e3,e4,h5,qae,qac,qad,qab,qaa]
end Sl
namespace Sl
open Go Go.LE Tb
open Sha (tagv qdx Lent qbf)
set_option maxRecDepth 20000
theorem call_new {K b g:Nat} (hg:qaJ g=fun _=>false) (H:Heap) {args:List LV} {l:List (BitVec 8)} {n c:Nat} (hn:args.flatMap (nms D)=[]) (hr:args.map (ren D (qaM []))=args)
    (hF:F C K g args []=some (.sl (1,0) 0 n (some c) 1,[],[bs l])):qaA (envC C K) H b g args=some ⟨.sl (b,0) 0 n (some c) 1,[bs l],[]⟩:=by
  rw[Aes.qcG K b g hg H args args [] [] [] _ hn rfl hr rfl hF,qaW]
  simp only[zA,zB,qar,qaY,zH,zM,qbs,zO,Nat.lt_one_iff,qbj,List.zipWith_nil_left]
theorem qhU (k b n:Nat) (H:Heap):qaA (envC C (k+1)) H b 38 [N n]=some ⟨.sl (b,0) 0 4 (some 4) 1,[bs (f4 n)],[]⟩:=call_new l38 H rfl rfl (four_F k n)
theorem rfour_call (k b n:Nat) (H:Heap):qaA (envC C (k+1)) H b 30 [N n]=some ⟨.sl (b,0) 0 4 (some 4) 1,[bs (f4 n)],[]⟩:=call_new l30 H rfl rfl (rfour_F k n)
theorem qbJ (H:Heap) (n:Nm) (off len:Nat) (c:Option Nat) (cs:qan) (l:List (BitVec 8)) (h:H n=some cs) (hd:(cs.drop off).take len=bs l) (hl:l.length=len) (h0:len≠0):LentA H (.sl n off len c 1) l [n]:=by
  intro d
  simp only[snap,if_neg h0,h,za,hd,snapL_bs,zC,hl]
theorem EK_t (e:Int) (d t:List (BitVec 8)) (hd:d.length=32) (ht:t.length=32):((EK e d t).drop 33).take 32=bs t:=by
  rw[EK,zd,List.drop_append_of_le_length (by rw[qaV]; omega),List.drop_of_length_le (by rw[qaV]; omega),zG,List.take_of_length_le (by rw[qaV]; omega)]
theorem EK_d (e:Int) (d t:List (BitVec 8)) (hd:d.length=32):((EK e d t).drop 1).take 32=bs d:=by
  rw[EK,zd,zE,List.take_append_of_le_length (by rw[qaV]; omega),List.take_of_length_le (by rw[qaV]; omega)]
theorem EK_k0N (e:Nat) (d t:List (BitVec 8)):qbc 0 1 (some (EK (e:Int) d t))=some [N e]:=rfl
def secL:List (BitVec 8):=[115#8,101#8,99#8,116#8,111#8,114#8]
def recM (e n:Nat) (b:List (BitVec 8)):List (BitVec 8):=secL++(f4 e++(f4 n++b))
def tagL (k m:List (BitVec 8)):List (BitVec 8):=(List.range 32).map (tagv k m)
theorem qb0 (k m:List (BitVec 8)):(tagL k m).length=32:=by rw[tagL,zX,List.length_range]
theorem aB_tagL (k m:List (BitVec 8)):aB 32 (tagv k m)=bs (tagL k m):=qcK 32 _
def recL (e n:Nat) (t b:List (BitVec 8)):List (BitVec 8):=f4 e++(tagL t (recM e n b)++List.replicate 28 0#8)
theorem qb4 (e n:Nat) (t b:List (BitVec 8)):(recL e n t b).length=64:=by
  rw[recL,zJ,zJ,qb0,List.length_replicate]; rfl
theorem rep64:List.replicate 64 (B8 0#8)=bs (List.replicate 64 0#8):=qfe 64 _
theorem qen (e n:Nat) (t b:List (BitVec 8)):bs (recL e n t b)=aB 64 fun j=>(recL e n t b).getD j 0#8:=qeU _ 64 (qb4 e n t b)
theorem rec_cp (e n:Nat) (t b:List (BitVec 8)) (H:Heap) (h1:H (24,0)=some (bs (f4 e++tagL t (recM e n b)))) (h2:H (4,0)=some (aB 64 fun _=>0#8)) :
    cpK 1 H (.sl (4,0) 0 64 (some 64) 1) (.sl (24,0) 0 36 none 1) (some 36)=some ⟨N 36,[],[((4,0),some (aB 64 fun j=>(recL e n t b).getD j 0#8))]⟩:=by
  have hl:(f4 e++tagL t (recM e n b)).length=36:=by rw[zJ,qb0]; rfl
  have hz:aB 64 (fun _=>0#8)=bs (List.replicate 64 0#8):=by rw[←qeO,rep64]
  rw[hz] at h2
  have hf:qbu H 1 (min 36 64) (.sl (24,0) 0 36 none 1)=some (bs (f4 e++tagL t (recM e n b))):=by
    rw[show min 36 64=36 from rfl,qbY (24,0) 0 36 none _ h1 (by omega),zE,List.take_of_length_le (by omega)]
  rw[qft 36 (4,0) 0 64 _ _ _ _ (by decide) hf h2 (by simp),hl,←qen,recL,zZ,zG,List.append_assoc]
  rfl
theorem record_F (k e n:Nat) (d t b:List (BitVec 8)) (hd:d.length=32) (ht:t.length=32) (hb:b.length=512) :
    F C (k+1300) 17 [.agg (EK e d t),N n,.isl (bs b) b.length] []=some (.agg (bs (recL e n t b)),[],[]):=by
  rw[qaL f17]
  have hp:=qb6 (e:Int) d t
  have hf:=fun (b n:Nat) H=>qhU (k+1298) b n H
  simp (disch:=first|omega|decide|simp only[nmsB,lB]) only[simprocAttr,-rR,-rS,leB,memB,arrB,numB,qaf,ordB,qaj,qaz,qak,L17,hp.isCell,hp.nms,EK_k0N,hf,qac,qad,qab,qaa,qaq,qag,qah]
  generalize hc:qaA _ _ _ _ _=r
  have e1 := qdx (k := k + 1299) (L := [secL, f4 e, f4 n, b]) (key := t) hc ⟨[(2, 0)], qbJ _ (2, 0) 33 32 _ (EK (e : Int) d t) t rfl (EK_t _ d t hd ht) ht (by decide) 6, rfl⟩
    (snap_row _ (15,0) (some 4) [(.sl (7,0) 0 6 (some 6) 1,secL,[(7,0)]),(.sl (11,0) 0 4 (some 4) 1,f4 e,[(11,0)]),(.sl (13,0) 0 4 (some 4) 1,f4 n,[(13,0)]),(.isl (bs b) b.length,b,[])] (by
      intro p hp
      simp only[List.mem_cons,List.not_mem_nil,zV] at hp
      rcases hp with rfl | rfl | rfl | rfl
      · exact qbJ _ (7,0) 0 6 _ _ secL rfl rfl rfl (by decide)
      · exact qbJ _ (11,0) 0 4 _ _ (f4 e) rfl rfl rfl (by decide)
      · exact qbJ _ (13,0) 0 4 _ _ (f4 n) rfl rfl rfl (by decide)
      · exact lentA_isl _ _) rfl (by simp)) (by omega) (by simp[secL,f4,hb]) (by simp) (by simp[secL,f4,hb,ht])
  subst e1
  clear hc
  have hl:[secL,f4 e,f4 n,b].flatten=recM e n b:=by simp[recM]
  rw[hl]
  have hap:appW 24 32 0 4 (bs ((List.range 32).map (tagv t (recM e n b)))) (some (bs (f4 e)))=some ⟨.sl (24,0) 0 36 none 1,[bs (f4 e++tagL t (recM e n b))],[]⟩:=by
    rw[appW_bs 32 0 4 (f4 e) _ (by simp[f4])]; rfl
  simp (disch:=first|omega|decide|simp only[nmsB,lB]) only[simprocAttr,-rR,-rS,leB,memB,arrB,numB,qaf,ordB,qaj,qaz,qak,hp.isCell,hp.nms,EK_k0N,hf,hap,qac,qad,qab,qaa,qaq,qag,qah]
  rw[rec_cp e n t b _ rfl rfl]
  simp (disch:=first|omega|decide|simp only[nmsB,lB]) only[simprocAttr,-rR,-rS,leB,memB,arrB,numB,qaf,ordB,qaj,qaz,qak,qac,qad,qab,qaa,qaq,qag,qah]
  rw[qen]
end Sl
namespace Aes
open Go Go.LE Xf Tb
set_option maxRecDepth 20000
theorem c_xnew_of (g K b len:Nat) (hg:qaJ g 0=true) (H:Heap) (B:LV) (key:List (BitVec 8)) (lent:List Nm) (hs:snap H D B=some (.isl (bs key) key.length,lent)) (O:LV→qan)
    (hO:∀ r,(O r).all (qbN D)=qbN D r) (hOr:∀ π r,(O r).map (ren D π)=O (ren D π r)) (l1 l2:List (BitVec 8))
    (hF:F C K g [.isl (bs key) key.length] []=some (.tup [.ptr (1,0) 0,N 0],[],[[.ptr (1,1) 0,.ptr (1,3) 0],O (.sl (1,2) 0 len none 16),bs l1,O (.sl (1,4) 0 len none 16),bs l2])) :
    qaA (envC C K) H b g [B]=some ⟨.tup [.ptr (b,0) 0,N 0],[[.ptr (b,1) 0,.ptr (b,3) 0],O (.sl (b,2) 0 len none 16),bs l1,O (.sl (b,4) 0 len none 16),bs l2],[]⟩:=by
  have hlend:lend H ((envC C K).borrow g) 0 [B]=some ([.isl (bs key) key.length],lent):=by
    rw[qba,qct,qbK,qdg,if_pos hg,hs,qa3,zD]
  have hn:([.isl (bs key) key.length]:List LV).flatMap (nms D)=[]:=by
    simp only[zI,zN,qa1,zD]
  have ha:([.isl (bs key) key.length]:List LV).map (ren D (qaM []))=[.isl (bs key) key.length]:=by
    simp only[zA,zB,qa9]
  have hp:qa7 (.tup [.ptr (1,0) 0,N 0],[],[[.ptr (1,1) 0,.ptr (1,3) 0],O (.sl (1,2) 0 len none 16),bs l1,O (.sl (1,4) 0 len none 16),bs l2])=true:=by
    simp only[qa7,ze,zW,hO,qcu]; rfl
  have hl:lent.any (fun n=>([]:List Nm).contains n)=false:=by simp
  rw[qbV,hlend,qbD,hn,show qa2 H FUEL [] []=[] from rfl,qbW _ _ _ _ _ hl,ha,zS,zB,qbU,hF,qcz _ _ _ _ hp,qaW]
  simp only[zA,zB,hOr,qar,qaY,qbr,zH,zM,qbs,zO,Nat.reduceAdd,Nat.reduceLT,qbj,qbw,List.zipWith_nil_left,zF]
  rfl
theorem c_xnew (k n b:Nat) (hn:n=4∨n=8) (H:Heap) (B:LV) (key:List (BitVec 8)) (hk:key.length=8*n) (lent:List Nm) (hs:snap H D B=some (.isl (bs key) key.length,lent)) :
    qaA (envC C (k+401)) H b 15 [B]=some ⟨.tup [.ptr (b,0) 0,N 0],[[.ptr (b,1) 0,.ptr (b,3) 0],CF (.sl (b,2) 0 (n+7) none 16) TB,bs (W n (key.take (4*n))),CF (.sl (b,4) 0 (n+7) none 16) TB,bs (W n (key.drop (4*n)))],[]⟩ :=
  c_xnew_of 15 _ b (n+7) (by decide) H B key lent hs (fun r=>CF r TB) (fun r=>qhm r _) (fun π r=>qa4 π r _) _ _ (xnew_F k n hn key hk)
theorem c_xrnew (k n b:Nat) (hn:n=4∨n=8) (H:Heap) (B:LV) (key:List (BitVec 8)) (hk:key.length=8*n) (lent:List Nm) (hs:snap H D B=some (.isl (bs key) key.length,lent)) :
    qaA (envC C (k+401)) H b 19 [B]=some ⟨.tup [.ptr (b,0) 0,N 0],[[.ptr (b,1) 0,.ptr (b,3) 0],RF (.sl (b,2) 0 (n+7) none 16) TB,bs (W n (key.take (4*n))),RF (.sl (b,4) 0 (n+7) none 16) TB,bs (W n (key.drop (4*n)))],[]⟩ :=
  c_xnew_of 19 _ b (n+7) (by decide) H B key lent hs (fun r=>RF r TB) (fun r=>qgr r _) (fun π r=>qbI π r _) _ _ (xrnew_F k n hn key hk)
theorem mk_z (b l:Nat) (h:l < 1048576):mkK b 1 1 [B8 0#8] (some l) (some l)=some ⟨.sl (b,0) 0 l (some l) 1,[bs (List.replicate l 0#8)],[]⟩:=by
  rw[mkK,if_pos ⟨Nat.le_refl l,by omega,by omega,rfl⟩]
  congr 3
  rw[←qfe]
  clear h
  induction l with
  | zero=>rfl
  | succ l ih=>rw[List.replicate_succ,List.flatten_cons,ih,List.replicate_succ]; rfl
end Aes
namespace Sl
open Go Go.LE Tb
open Sha (tagv qdx Lent qbf)
set_option maxRecDepth 20000
theorem qgb {K b g:Nat} (h0:qaJ g 0=false) (h1:qaJ g 1=false) (h2:qaJ g 2=true) {H:Heap} {a x B:LV} {bb:List (BitVec 8)} (hB:Lent H B bb [])
    (ha:nms D a=[]) (hx:nms D x=[]) (ra:∀ π,ren D π a=a) (rx:∀ π,ren D π x=x) {res:qce} (hp:qa7 res=true)
    (hF:F C K g [a,x,.isl (bs bb) bb.length] []=some res):qaA (envC C K) H b g [a,x,B]=some (qcA [] b res):=by
  obtain ⟨lent,hs,hl⟩:=hB
  have hlend:lend H ((envC C K).borrow g) 0 [a,x,B]=some ([a,x,.isl (bs bb) bb.length],lent):=by
    rw[qba,qba,qba,qct,qbK,qdg,h0,if_neg (by decide),h1,if_neg (by decide),if_pos h2,hs,qa3,qa3,qa3,zG,zG,zD]
  rw [qbV, hlend, qbD, show ([a, x, .isl (bs bb) bb.length] : List LV).flatMap (nms D) = [] by simp only [zI, zN, qa1, ha, hx, zD],
    show qa2 H FUEL [] []=[] from rfl,qbW _ _ _ _ _ hl,show ([a,x,.isl (bs bb) bb.length]:List LV).map (ren D (qaM []))=[a,x,.isl (bs bb) bb.length] by simp only[zA,zB,qa9,ra,rx],
    zS,zB,qbU,hF,Sha.qcz _ _ _ _ hp]
theorem plain_v (v:LV) (h:qbN D v=true):qa7 (v,[],[])=true:=by simp[qa7,h]
theorem qhp {cs:qan} (h:PC cs):qbN D (.agg cs)=true:=by
  show cs.all (qbN 7)=true
  rw[List.all_eq_true]; intro x hx
  rcases h x hx with ⟨k,n,rfl⟩ | ⟨b,rfl⟩ <;> rfl
theorem qhq (k b:Nat) (H:Heap) (e n:Int) (d t:List (BitVec 8)) (B:LV) (bb:List (BitVec 8)) (hB:Lent H B bb []) (hb:bb.length < 9223372036854775808) :
    qaA (envC C (k+1)) H b 14 [.agg (EK e d t),I n,B]=some ⟨N (mayE e n bb.length),[],[]⟩ :=
  qgb rfl rfl rfl hB (qb6 e d t).anms rfl (qb6 e d t).aren (fun _=>rfl) rfl (may_F k e n d t bb hb)
theorem qh9 (k b e n:Nat) (H:Heap) (d t:List (BitVec 8)) (hd:d.length=32) (ht:t.length=32) (B:LV) (bb:List (BitVec 8)) (hB:Lent H B bb []) (hb:bb.length=512) :
    qaA (envC C (k+1300)) H b 17 [.agg (EK e d t),N n,B]=some ⟨.agg (bs (recL e n t bb)),[],[]⟩:=by
  rw[qgb rfl rfl rfl hB (qb6 e d t).anms rfl (qb6 e d t).aren (fun _=>rfl) (plain_v _ (qhp (.bs _))) (record_F k e n d t bb hd ht hb),qaW,(PC.bs _).aren]
  rfl
def qby (d:List (BitVec 8)) (n:Nat) (p:List (BitVec 8)):List (BitVec 8) :=
  Aes.qbF (Aes.enc (Aes.kf (Aes.W 4 (d.take 16))) 9) (Aes.tw0 9 (Aes.W 4 (d.drop 16)) (BitVec.ofNat 64 n)) p false
theorem qeW (d:List (BitVec 8)) (n:Nat) (p:List (BitVec 8)) (h:p.length=512):(qby d n p).length=512:=by
  rw[qby,Aes.qgs _ _ _ _ (by omega),h]
theorem c_xnew (k b:Nat) (H:Heap) (B:LV) (key:List (BitVec 8)) (hk:key.length=32) (lent:List Nm) (hs:snap H D B=some (.isl (bs key) key.length,lent)) :
    qaA (envC C (k+401)) H b 15 [B]=some ⟨.tup [.ptr (b,0) 0,N 0],[[.ptr (b,1) 0,.ptr (b,3) 0],Aes.CF (.sl (b,2) 0 11 none 16) Aes.TB,bs (Aes.W 4 (key.take 16)),Aes.CF (.sl (b,4) 0 11 none 16) Aes.TB,bs (Aes.W 4 (key.drop 16))],[]⟩ :=
  Aes.c_xnew k 4 b (.inl rfl) H B key hk lent hs
def tat (x z:LV):Option LV→Option LV
  | some a=>some (.tup [x,a,z])
  | none=>none
theorem qgt (x z a:LV):tat x z (some a)=some (.tup [x,a,z]):=rfl
theorem qfm (tm:List LV) (H:Heap) (t u n w nx np:Nat):qc2 ⟨tm,H,nx,np⟩ [.tmp t,.agg u n,.tmp w]=tat (tm.getD t .undef) (tm.getD w .undef) (aggV (qb9 H n (tm.getD u .undef))):=by
  simp only[qc2,zA,zB,qeT]
  cases qb9 H n (tm.getD u .undef) <;> rfl
theorem PC.n7 {cs:qan} (h:PC cs):LE.nms 7 (.agg cs)=[]:=h.nms 5
theorem PC.r7 {cs:qan} (h:PC cs) (π:Nm→Option Nm):LE.ren 7 π (.agg cs) = .agg cs:=by
  show LV.agg (cs.map (LE.ren 6 π))=_
  rw[h.ren 5]
theorem z64:aB 64 (fun _=>0#8)=bs (List.replicate 64 0#8):=by rw[←qeO,rep64]
theorem out_tat (tm:List LV) (H:Heap) (nx m n z:Nat) (c:Option Nat) {cs:qan} (hc:PC cs) (l:List (BitVec 8)) (hm:m≠0) (h:H (m,0)=some (bs l)) :
    some (qcb 0 ⟨tm,H,nx,0⟩ (.tup [.sl (m,0) 0 n c 1,.agg cs,N z]))=some (.tup [.sl (1,0) 0 n c 1,.agg cs,N z],[],[bs l]):=by
  refine Aes.qb3 (names:=[(m,0)]) (Aes.qey (l:=[(m,0)]) (ns:=[(m,0)]) ?_ ((Aes.qaE rfl h (qam l)).trans (qbm _ _ _)) (by simp[hm])) ?_
  · simp only[List.range_zero,zB,zG,zI,zN,qc9,hc.n7,qdy,zD]; rfl
  · have e : qbq [(m, 0)] (m, 0) = some (1, 0) := by rw [qgJ _ _ _ hm]; simp [idx]
    have e2:ren 7 (qbq [(m,0)]) (.sl (m,0) 0 n c 1) = .sl (1,0) 0 n c 1:=by simp only[ren,e]
    simp only[List.range_zero,zB,qbS,zA,hc.r7,qdK,e2,List.filterMap_cons,zS,h,qar]
theorem out_st (tm:List LV) (H:Heap) (nx m n z:Nat) (c:Option Nat) (l:List (BitVec 8)) (hm:m≠0) (h:H (m,0)=some (bs l)) :
    some (qcb 0 ⟨tm,H,nx,0⟩ (.tup [.sl (m,0) 0 n c 1,N z]))=some (.tup [.sl (1,0) 0 n c 1,N z],[],[bs l]):=by
  refine Aes.qb3 (names:=[(m,0)]) (Aes.qey (l:=[(m,0)]) (ns:=[(m,0)]) ?_ ((Aes.qaE rfl h (qam l)).trans (qbm _ _ _)) (by simp[hm])) ?_
  · simp only[List.range_zero,zB,zG,zI,zN,qc9,qdy,zD]; rfl
  · have e : qbq [(m, 0)] (m, 0) = some (1, 0) := by rw [qgJ _ _ _ hm]; simp [idx]
    have e2:ren 7 (qbq [(m,0)]) (.sl (m,0) 0 n c 1) = .sl (1,0) 0 n c 1:=by simp only[ren,e]
    simp only[List.range_zero,zB,qbS,zA,qdK,e2,List.filterMap_cons,zS,h,qar]
theorem PC.aB (n:Nat) (f:Nat→BitVec 8):PC (aB n f):=by rw[qcK]; exact .bs _
theorem n7_sl (m:Nm) (a b:Nat) (c:Option Nat) (d:Nat):nms 7 (.sl m a b c d)=[m]:=rfl
theorem Seal_bad (k:Nat) (e n:Int) (d t p:List (BitVec 8)) (hd:d.length=32) (ht:t.length=32) (hp:p.length < 9223372036854775808) (hm:mayE e n p.length≠0) :
    F C (k+2) 6 [.agg (EK e d t),I n,.isl (bs p) p.length] []=some (.tup [Nil,.agg (bs (List.replicate 64 0#8)),N (mayE e n p.length)],[],[]):=by
  rw[qaL f6]
  have hpc:=qb6 e d t
  have hc:∀ b H,qaA (envC C (k+1)) H b 14 [.agg (EK e d t),I n,.isl (bs p) p.length]=some ⟨N (mayE e n p.length),[],[]⟩:=fun b H=>qhq k b H e n d t _ p (qbf _ _ _) hp
  have hm':decide (mayE e n p.length≠0)=true:=by simpa using hm
  simp (disch:=first|omega|decide|simp only[nmsB,lB]) only[simprocAttr,-rR,-rS,leB,memB,arrB,numB,qaf,opsB,qaz,qak,L6,hpc.isCell,qca e d t hd ht,hc,hm,hm',qac,qad,qab,qaa,qah]
  simp (disch:=first|omega|decide|simp only[nmsB,lB]) only[simprocAttr,-rR,-rS,leB,memB,arrB,opsB,qfm,qgt,zC,qae,qac]
  have hz:=PC.bs (List.replicate 64 0#8)
  rw[z64,qbH (by rw[qc9]; simp only[zI,zN,hz.n7,qdy,zD] <;> rfl) (fun π=>by rw[qbS]; simp only[zA,zB,hz.r7,qdK] <;> rfl)]
theorem Seal_F (k e n:Nat) (d t p:List (BitVec 8)) (hd:d.length=32) (ht:t.length=32) (hp:p.length=512) (hm:mayE e n 512=0) :
    F C (k+6000) 6 [.agg (EK e d t),N n,.isl (bs p) p.length] []=some (.tup [.sl (1,0) 0 512 none 1,.agg (bs (recL e n t (qby d n p))),N 0],[],[bs (qby d n p)]):=by
  rw[qaL f6]
  have hpc:=qb6 e d t
  have hc:∀ b H,qaA (envC C (k+5999)) H b 14 [.agg (EK e d t),N n,.isl (bs p) p.length]=some ⟨N 0,[],[]⟩:=fun b H=>by
    have h:=qhq (k+5998) b H e n d t _ p (qbf _ _ _) (by omega)
    rw[hp,hm] at h
    rw[hp]; exact h
  simp (disch:=first|omega|decide|simp only[nmsB,lB]) only[simprocAttr,-rR,-rS,leB,memB,arrB,numB,qaf,opsB,qaz,qak,L6,hpc.isCell,qca e d t hd ht,hc,qac,qad,qab,qaa,qah]
  rw[c_xnew (k+5598) _ _ _ d hd [(2,0)] (qbJ _ (2,0) 1 32 _ (EK e d t) d rfl (EK_d _ d t hd) hd (by decide) 6)]
  simp (disch:=first|omega|decide|simp only[nmsB,lB]) only[simprocAttr,-rR,-rS,leB,memB,arrB,numB,qaf,opsB,qaz,qak,hpc.isCell,qca e d t hd ht,qac,qad,qab,qaa,qah]
  generalize hG:upd _ (15,4) _=G
  have X:Aes.XG G (15,0) (15,1) (15,2) (15,3) (15,4) 9 (Aes.W 4 (d.take 16)) (Aes.W 4 (d.drop 16)):=by rw[←hG]; exact ⟨rfl,rfl,rfl,rfl,rfl,by decide⟩
  have g2:G (2,0)=some (EK e d t):=by rw[←hG]; rfl
  have g4:G (4,0)=some (aB 64 fun _=>0#8):=by rw[←hG]; rfl
  clear hG
  have l1:(Aes.W 4 (d.take 16)).length=16*(9+2):=Aes.qex 4 _ (by rw[zT,hd] <;> rfl)
  have l2:(Aes.W 4 (d.drop 16)).length=16*(9+2):=Aes.qex 4 _ (by rw[zR,hd])
  have he:=Aes.c_enI (k+5999) 16 9 27 l16 G (15,0) (15,1) (15,2) (15,3) (15,4) _ _ X (BitVec.ofNat 64 n) p _ p.length (Aes.encr23I_F (k+996) 9 (by decide) _ _ l1 l2 (BitVec.ofNat 64 n) p (by omega) (by omega) (by omega))
  rw[show Aes.qbF (Aes.enc (Aes.kf (Aes.W 4 (d.take 16))) 9) (Aes.tw0 9 (Aes.W 4 (d.drop 16)) (BitVec.ofNat 64 n)) p false=qby d n p from rfl,hp] at he
  have hs:=X.same
  have hsl:=qeW d n p hp
  rw[hp]
  simp (disch:=first|omega|decide|simp only[nmsB,lB]) only[simprocAttr,-rR,-rS,leB,memB,arrB,numB,qaf,opsB,qaz,qak,he,hs,g2,g4,qca e d t hd ht,qac,qad,qab,qaa,qah]
  rw[qh9 (k+4699) _ e n _ d t hd ht _ (qby d n p) (by
    have h:=Sha.qem (upd G (27,0) (some (bs (qby d n p)))) (27,0) 0 512 none (qby d n p) [] rfl (by omega) rfl
    rwa [zE,List.take_of_length_le (by omega)] at h) hsl,qen]
  simp (disch:=first|omega|decide|simp only[nmsB,lB]) only[simprocAttr,-rR,-rS,leB,memB,arrB,numB,qaf,opsB,qaz,qak,g4,qfm,qgt,zC,qac,qad,qab,qaa,qah]
  exact out_tat _ _ _ 27 512 0 none (.aB _ _) (qby d n p) (by decide) rfl
end Sl
namespace Sl
open Go Go.LE Tb
open Sha (tagv qdx Lent qbf)
set_option maxRecDepth 20000
def qcp (d:List (BitVec 8)) (n:Nat) (p:List (BitVec 8)):List (BitVec 8) :=
  Aes.qbF (Aes.dec (Aes.kf (Aes.W 4 (d.take 16))) 9) (Aes.tw0 9 (Aes.W 4 (d.drop 16)) (BitVec.ofNat 64 n)) p true
theorem qfR (d:List (BitVec 8)) (n:Nat) (p:List (BitVec 8)) (h:p.length=512):(qcp d n p).length=512:=by
  rw[qcp,Aes.qgs _ _ _ _ (by omega),h]
theorem qfS (d:List (BitVec 8)) (n:Nat) (p:List (BitVec 8)) (h:p.length=512):qcp d n (qby d n p)=p :=
  Aes.unit_inv (Aes.inv_aes _ 9) _ p false (by omega)
theorem Open_bad (k:Nat) (e n:Int) (d t p:List (BitVec 8)) (r:Nat→BitVec 8) (hd:d.length=32) (ht:t.length=32) (hp:p.length < 9223372036854775808) (hm:mayE e n p.length≠0) :
    F C (k+2) 9 [.agg (EK e d t),I n,.isl (bs p) p.length,.agg (aB 64 r)] []=some (.tup [Nil,N (mayE e n p.length)],[],[]):=by
  rw[qaL f9]
  have hpc:=qb6 e d t
  have hc:∀ b H,qaA (envC C (k+1)) H b 14 [.agg (EK e d t),I n,.isl (bs p) p.length]=some ⟨N (mayE e n p.length),[],[]⟩:=fun b H=>qhq k b H e n d t _ p (qbf _ _ _) hp
  have hm':decide (mayE e n p.length≠0)=true:=by simpa using hm
  simp (disch:=first|omega|decide|simp only[nmsB,lB]) only[simprocAttr,-rR,-rS,leB,memB,arrB,numB,qaf,opsB,qaz,qak,L9,hpc.isCell,qca e d t hd ht,hc,hm,hm',qac,qad,qab,qaa,qah]
  rw[qbH rfl (fun _=>rfl)]
theorem qfO (k e n:Nat) (d t p:List (BitVec 8)) (r:Nat→BitVec 8) (hd:d.length=32) (ht:t.length=32) (hp:p.length=512) (hm:mayE e n 512=0) :
    F C (k + 6000) 9 [.agg (EK e d t), N n, .isl (bs p) p.length, .agg (aB 64 r)] [] =
      if (List.range 64).map r=recL e n t p then some (.tup [.sl (1,0) 0 512 none 1,N 0],[],[bs (qcp d n p)]) else some (.tup [Nil,N 160],[],[]):=by
  rw[qaL f9]
  have hpc:=qb6 e d t
  have hc:∀ b H,qaA (envC C (k+5999)) H b 14 [.agg (EK e d t),N n,.isl (bs p) p.length]=some ⟨N 0,[],[]⟩:=fun b H=>by
    have h:=qhq (k+5998) b H e n d t _ p (qbf _ _ _) (by omega)
    rw[hp,hm] at h
    rw[hp]; exact h
  have hr:∀ b H,qaA (envC C (k+5999)) H b 17 [.agg (EK e d t),N n,.isl (bs p) p.length]=some ⟨.agg (aB 64 fun j=>(recL e n t p).getD j 0#8),[],[]⟩:=fun b H=>by
    rw[qh9 (k+4699) b e n H d t hd ht _ p (qbf _ _ _) hp,qen]
  simp (disch:=first|omega|decide|simp only[nmsB,lB]) only[simprocAttr,-rR,-rS,leB,memB,arrB,numB,qaf,opsB,ordB,qaj,qaz,qak,L9,hpc.isCell,qca e d t hd ht,hc,hr,qac,qad,qab,qaa,qaq,qag,qah]
  have hq : ∀ (b : Nat) (H : Heap), H (17, 0) = some (aB 64 fun j => (recL e n t p).getD j 0#8) → H (3, 0) = some (aB 64 r) →
      qaA (envC C (k+5999)) H b 25 [.sl (17,0) 0 64 (some 64) 1,.sl (3,0) 0 64 (some 64) 1]=some ⟨Bo (decide (recL e n t p=(List.range 64).map r)),[],[]⟩:=fun b H h1 h2 =>
    Sha.qiy (k + 5999) b H _ _ (recL e n t p) ((List.range 64).map r)
      ⟨[(17,0)],qbJ H (17,0) 0 64 _ _ (recL e n t p) h1 (by rw[←qen,zE,List.take_of_length_le (by rw[qaV,qb4]; omega)]) (qb4 _ _ _ _) (by decide) 6,rfl⟩
      ⟨[(3,0)],qbJ H (3,0) 0 64 _ _ ((List.range 64).map r) h2 (by rw[←qcK,zE,List.take_of_length_le (by rw[qbB]; omega)]) (by simp) (by decide) 6,rfl⟩
      (by rw[qb4]; decide) (by simp) (by rw[qb4]; simp)
  rw[hq _ _ rfl rfl]
  by_cases h:(List.range 64).map r=recL e n t p
  · have hd1 : decide (recL e n t p = (List.range 64).map r) = true := decide_eq_true h.symm
    rw[if_pos h]
    simp (disch:=first|omega|decide|simp only[nmsB,lB]) only[simprocAttr,-rR,-rS,leB,memB,arrB,numB,qaf,opsB,ordB,qaj,qaz,qak,hd1,qac,qad,qab,qaa,qaq,qag,qah]
    rw[c_xnew (k+5598) _ _ _ d hd [(2,0)] (qbJ _ (2,0) 1 32 _ (EK e d t) d rfl (EK_d _ d t hd) hd (by decide) 6)]
    simp (disch:=first|omega|decide|simp only[nmsB,lB]) only[simprocAttr,-rR,-rS,leB,memB,arrB,numB,qaf,opsB,qaz,qak,qac,qad,qab,qaa,qah]
    generalize hG:upd _ (25,4) _=G
    have X:Aes.XG G (25,0) (25,1) (25,2) (25,3) (25,4) 9 (Aes.W 4 (d.take 16)) (Aes.W 4 (d.drop 16)):=by rw[←hG]; exact ⟨rfl,rfl,rfl,rfl,rfl,by decide⟩
    clear hG
    have l1:(Aes.W 4 (d.take 16)).length=16*(9+2):=Aes.qex 4 _ (by rw[zT,hd] <;> rfl)
    have l2:(Aes.W 4 (d.drop 16)).length=16*(9+2):=Aes.qex 4 _ (by rw[zR,hd])
    have he:=Aes.c_enI (k+5999) 26 9 37 l26 G (25,0) (25,1) (25,2) (25,3) (25,4) _ _ X (BitVec.ofNat 64 n) p _ p.length (Aes.encr26I_F (k+996) 9 (by decide) _ _ l1 l2 (BitVec.ofNat 64 n) p (by omega) (by omega) (by omega))
    rw[show Aes.qbF (Aes.dec (Aes.kf (Aes.W 4 (d.take 16))) 9) (Aes.tw0 9 (Aes.W 4 (d.drop 16)) (BitVec.ofNat 64 n)) p true=qcp d n p from rfl,hp] at he
    have hs:=X.same
    have hsl:=qfR d n p hp
    rw[hp]
    simp (disch:=first|omega|decide|simp only[nmsB,lB]) only[simprocAttr,-rR,-rS,leB,memB,arrB,numB,qaf,opsB,qaz,qak,he,hs,zC,qac,qad,qab,qaa,qah]
    exact out_st _ _ _ 37 512 0 none (qcp d n p) (by decide) rfl
  · have hd1 : decide (recL e n t p = (List.range 64).map r) = false := decide_eq_false (Ne.symm h)
    rw[if_neg h]
    simp (disch:=first|omega|decide|simp only[nmsB,lB]) only[simprocAttr,-rR,-rS,leB,memB,arrB,numB,qaf,opsB,ordB,qaj,qaz,qak,hd1,qac,qad,qab,qaa,qaq,qag,qah]
    rw[qbH rfl (fun _=>rfl)]
end Sl
namespace Sl
open Go Go.LE Tb
open Sha (tagv Lent qbf)
set_option maxRecDepth 20000
theorem right_F (k:Nat) (e n:Int) (d t:List (BitVec 8)):F C (k+1) 18 [.agg (EK e d t),I n] []=some (Bo (decide (mayE e n 512=0)),[],[]):=by
  rw[qaL f18]
  have hp:=qb6 e d t
  by_cases h1:1≤e
  · have e1 : decide (1 ≤ e) = true := by simpa using h1
    by_cases h2:e≤4294967295
    · have e2 : decide (e ≤ 4294967295) = true := by simpa using h2
      by_cases h3:0≤n
      · have e3 : decide (0 ≤ n) = true := by simpa using h3
        by_cases h4:n < 1024
        · have e4 : decide (n < 1024) = true := by simpa using h4
          simp (disch:=first|omega|decide|simp only[nmsB,lB]) only[simprocAttr,-rR,-rS,leB,memB,arrB,numB,qaf,L18,hp.isCell,qfl,qez,I_leqN,qeA,e1,e2,e3,e4,qae,qac,qad,qab,qaa]
          rw[mayE,if_neg (by omega)]; rfl
        · have e4 : decide (n < 1024) = false := by simpa using h4
          simp (disch:=first|omega|decide|simp only[nmsB,lB]) only[simprocAttr,-rR,-rS,leB,memB,arrB,numB,qaf,L18,hp.isCell,qfl,qez,I_leqN,qeA,e1,e2,e3,e4,qae,qac,qad,qab,qaa]
          rw[mayE,if_pos (by omega)]; rfl
      · have e3 : decide (0 ≤ n) = false := by simpa using h3
        simp (disch:=first|omega|decide|simp only[nmsB,lB]) only[simprocAttr,-rR,-rS,leB,memB,arrB,numB,qaf,L18,hp.isCell,qfl,qez,I_leqN,qeA,e1,e2,e3,qae,qac,qad,qab,qaa]
        rw[mayE,if_pos (by omega)]; rfl
    · have e2 : decide (e ≤ 4294967295) = false := by simpa using h2
      simp (disch:=first|omega|decide|simp only[nmsB,lB]) only[simprocAttr,-rR,-rS,leB,memB,arrB,numB,qaf,L18,hp.isCell,qfl,qez,I_leqN,qeA,e1,e2,qae,qac,qad,qab,qaa]
      rw[mayE,if_pos (by omega)]; rfl
  · have e1 : decide (1 ≤ e) = false := by simpa using h1
    simp (disch:=first|omega|decide|simp only[nmsB,lB]) only[simprocAttr,-rR,-rS,leB,memB,arrB,numB,qaf,L18,hp.isCell,qfl,qez,I_leqN,qeA,e1,qae,qac,qad,qab,qaa]
    rw[mayE,if_pos (by omega)]; rfl
def pfx (L:List (BitVec 8)) (i:Nat):Nat→BitVec 8:=fun j=>if j < i then L.getD j 0#8 else 0#8
theorem pfx_succ (L:List (BitVec 8)) (i:Nat):set1 (pfx L i) i (L.getD i 0#8)=pfx L (i+1):=by
  funext j
  simp only[set1,pfx]
  by_cases h:j=i
  · subst h; rw[if_pos rfl,if_pos (by omega)]
  · rw [if_neg h]
    by_cases h2:j < i
    · rw[if_pos h2,if_pos (by omega)]
    · rw[if_neg h2,if_neg (by omega)]
theorem pfx_0 (L:List (BitVec 8)):pfx L 0=fun _=>0#8:=funext fun j=>if_neg (Nat.not_lt_zero j)
theorem recL_f4 (e n:Nat) (t b:List (BitVec 8)) (i:Nat) (h:i < 4):(recL e n t b).getD i 0#8=(f4 e).getD i 0#8:=by
  rw[recL,List.getD_eq_getElem?_getD,List.getElem?_append_left (by simp[f4,h]),List.getD_eq_getElem?_getD]
theorem recL_tag (e n:Nat) (t b:List (BitVec 8)) (i:Nat) (h:i < 32):(recL e n t b).getD (4+i) 0#8=tagv t (recM e n b) i:=by
  rw[recL,List.getD_eq_getElem?_getD,List.getElem?_append_right (by simp[f4]),show 4+i - (f4 e).length=i by simp[f4],List.getElem?_append_left (by rw[qb0]; exact h)]
  simp[tagL,h]
theorem recL_pfx (e n:Nat) (t b:List (BitVec 8)):aB 64 (pfx (recL e n t b) 36)=aB 64 fun j=>(recL e n t b).getD j 0#8:=qbR 64 fun j hj=>by
  rw[pfx]
  by_cases h:j < 36
  · rw[if_pos h]
  · rw [if_neg h, recL, List.getD_eq_getElem?_getD, List.getElem?_append_right (by simp [f4]; omega), List.getElem?_append_right (by rw [qb0]; simp [f4]; omega), List.getElem?_replicate]
    simp[f4,qb0]; split <;> rfl
def ofJ1 (e n:Nat) (t b:List (BitVec 8)) (i:Nat) (st:St):Prop := ∃ (H:Heap),st=⟨[.undef,.undef,.undef,.undef,.undef,.undef,.ptr (1,0) 0,.undef,.ptr (1,1) 0,.ptr (1,2) 0,.sl (1,3) 0 4 (some 4) 1,N i,.undef,.undef,.undef,.undef,.undef,.undef,.undef,.undef,.undef,.undef,.undef,.undef,.undef,.undef,.undef,.undef,.undef,.undef,.undef,.undef,.undef,.undef,.undef,.undef,.undef,.undef,.undef,.undef,.undef,.undef,.undef,.undef,.undef,.undef,.undef,.undef,.undef,.undef,.undef,.undef],H,2,0⟩ ∧
  H (1,0)=some (aB 64 fun _=>0#8)∧H (1,1)=some (aB 32 (tagv t (recM e n b)))∧H (1,2)=some (aB 64 (pfx (recL e n t b) i))∧H (1,3)=some (bs (f4 e))
def ofJ0 (e n:Nat) (t b:List (BitVec 8)) (i:Nat) (st:St):Prop := ∃ (H:Heap),st=⟨[.undef,.undef,.undef,.undef,.undef,.undef,.ptr (1,0) 0,.undef,.ptr (1,1) 0,.ptr (1,2) 0,.undef,.undef,N i,.undef,.undef,.undef,.undef,.undef,.undef,.undef,.undef,.undef,.undef,.undef,.undef,.undef,.undef,.undef,.undef,.undef,.undef,.undef,.undef,.undef,.undef,.undef,.undef,.undef,.undef,.undef,.undef,.undef,.undef,.undef,.undef,.undef,.undef,.undef,.undef,.undef,.undef,.undef],H,2,0⟩ ∧
  H (1,0)=some (aB 64 fun _=>0#8)∧H (1,1)=some (aB 32 (tagv t (recM e n b)))∧H (1,2)=some (aB 64 (pfx (recL e n t b) (4+i)))
theorem of1_round (k K e n:Nat) (t b:List (BitVec 8)) (i:Nat) (hi:i < 4) (st:St) (hJ:ofJ1 e n t b i st):∃ st1,ev (envC C k) K L13b1 st=some (.normal,st1)∧ofJ1 e n t b (i+1) (qaT L13k1 st1):=by
  obtain ⟨H,rfl,h0,h1,h2,h3⟩:=hJ
  have i64:i < 64:=by omega
  have hs:=pfx_succ (recL e n t b) i
  rw[recL_f4 e n t b i hi] at hs
  have hc:qbc i 1 (some (bs (f4 e)))=some [B8 ((f4 e).getD i 0#8)]:=by rw[qeU (f4 e) 4 rfl,qf3 _ _ _ hi]
  apply Exists.intro
  apply And.intro
  · simp (disch := first | omega | decide | simp only [nmsB, lB]) only [simprocAttr, -rR, -rS, leB, memB, arrB, numB, qaf, L13b1, hi, i64, h0, h1, h2, h3, hs, hc, qae, qac, qad, qab, qaa]
    rfl
  · refine qal [(1, 0), (1, 1), (1, 2), (1, 3)] rfl (by simp only [simprocAttr, -rR, -rS, qaj, L13k1, qaD, qam, h0, h1, h2, h3, qag, qab, qaa]) rfl ⟨_, rfl, ?_, ?_, ?_, ?_⟩
    · exact qai (1,0) rfl (by simp (disch:=first|omega|decide|simp only[nmsB,lB]) only[simprocAttr,-rR,-rS,memB,h0,qac]) (qap _ _ _)
    · exact qai (1,1) rfl (by simp (disch:=first|omega|decide|simp only[nmsB,lB]) only[simprocAttr,-rR,-rS,memB,h1,qac]) (qap _ _ _)
    · exact qai (1,2) rfl (by simp (disch:=first|omega|decide|simp only[nmsB,lB]) only[simprocAttr,-rR,-rS,memB,qac]) (qap _ _ _)
    · exact qai (1,3) rfl (by simp (disch:=first|omega|decide|simp only[nmsB,lB]) only[simprocAttr,-rR,-rS,memB,h3,qac]) (qar _ _)
theorem of0_round (k K e n:Nat) (t b:List (BitVec 8)) (i:Nat) (hi:i < 32) (st:St) (hJ:ofJ0 e n t b i st):∃ st1,ev (envC C k) K L13b0 st=some (.normal,st1)∧ofJ0 e n t b (i+1) (qaT L13k0 st1):=by
  obtain ⟨H,rfl,h0,h1,h2⟩:=hJ
  have i64:4+i < 64:=by omega
  have hs:=pfx_succ (recL e n t b) (4+i)
  rw[recL_tag e n t b i hi] at hs
  apply Exists.intro
  apply And.intro
  · simp (disch := first | omega | decide | simp only [nmsB, lB]) only [simprocAttr, -rR, -rS, leB, memB, arrB, numB, qaf, L13b0, hi, i64, h0, h1, h2, hs, qae, qac, qad, qab, qaa]
    rfl
  · refine qal [(1, 0), (1, 1), (1, 2)] rfl (by simp only [simprocAttr, -rR, -rS, qaj, L13k0, qaD, qam, h0, h1, h2, qag, qab, qaa]) rfl ⟨_, rfl, ?_, ?_, ?_⟩
    · exact qai (1,0) rfl (by simp (disch:=first|omega|decide|simp only[nmsB,lB]) only[simprocAttr,-rR,-rS,memB,h0,qac]) (qap _ _ _)
    · exact qai (1,1) rfl (by simp (disch:=first|omega|decide|simp only[nmsB,lB]) only[simprocAttr,-rR,-rS,memB,h1,qac]) (qap _ _ _)
    · exact qai (1,2) rfl (by simp (disch:=first|omega|decide|simp only[nmsB,lB]) only[simprocAttr,-rR,-rS,memB,qac] <;> rfl) (qap _ _ _)
theorem Of_F (k e n:Nat) (d t b:List (BitVec 8)) (hd:d.length=32) (ht:t.length=32) (hb:b.length=512) :
    F C (k+1300) 13 [.agg (EK e d t),N n,.isl (bs b) b.length] []=some (.agg (bs (recL e n t b)),[],[]):=by
  rw[qaL f13]
  have hp:=qb6 (e:Int) d t
  have hf:=fun (b n:Nat) H=>rfour_call (k+1298) b n H
  have hfr:∀ H,qbu H 1 512 (.isl (bs b) 512)=some (bs b):=fun H=>qb2 b 512 hb
  have ht1:List.take 10 (secL++f4 e)=secL++f4 e:=rfl
  have ht2:List.take 14 (secL++f4 e++f4 n)=secL++f4 e++f4 n:=rfl
  have hsec:([B8 115#8,B8 101#8,B8 99#8,B8 116#8,B8 111#8,B8 114#8]:qan)=bs secL:=rfl
  have hA1:∀ b,appW b 4 0 6 (bs (f4 e)) (some (bs secL))=some ⟨.sl (b,0) 0 10 none 1,[bs (secL++f4 e)],[]⟩:=fun b=>qh7 4 6 secL _ rfl
  have hl1:(secL++f4 e).length=10:=rfl
  have hfk:∀ x,qcF 0 1 4 (some (bs (f4 x)))=some (bs (f4 x)):=fun x=>qah 4 _ rfl
  have hl2:(secL++f4 e++f4 n).length=14:=rfl
  simp (disch:=first|omega|decide|simp only[nmsB,lB]) only[simprocAttr,-rR,-rS,leB,memB,arrB,numB,qaf,qaz,qak,L13,hp.isCell,EK_k0N,hf,hfr,hsec,hA1,hl1,hl2,hfk,ht1,ht2,zE,hb,qac,qad,qab,qaa,qah]
  have hM:secL++f4 e++f4 n++b=recM e n b:=by simp only[recM,List.append_assoc]
  have hMl:(recM e n b).length=526:=by simp only[recM,zJ,hb]; rfl
  rw [hM, Sha.rtag_call (k + 1299) _ _ _ _ t (recM e n b) ⟨[(2, 0)], qbJ _ (2, 0) 33 32 _ (EK (e : Int) d t) t rfl (EK_t _ d t hd ht) ht (by decide) 6, rfl⟩
    ⟨[(14,0)],qbJ _ (14,0) 0 526 _ _ (recM e n b) rfl (by rw[zE,List.take_of_length_le (by rw[qaV]; omega)]) hMl (by decide) 6,rfl⟩ (by omega) (by omega) (by omega)]
  simp (disch:=first|omega|decide|simp only[nmsB,lB]) only[simprocAttr,-rR,-rS,leB,memB,arrB,numB,qaf,qaz,qak,EK_k0N,hf,qac,qad,qab,qaa,qah]
  generalize hL:qaP L13k1 _ _ _=r
  refine qaK hL (ofJ1 e n t b) 4 (by omega) (fun i st hi hJ=>of1_round _ _ e n t b i hi st hJ) ?_ ?_ ?_
  · refine qal [(3, 0), (20, 0), (22, 0), (25, 0)] rfl (by simp only [simprocAttr, -rR, -rS, qaj, L13k1, qaD, qam, qag, qab, qaa]) rfl ⟨_, rfl, ?_, ?_, ?_, ?_⟩
    · exact qai (3,0) rfl rfl (qap _ _ _)
    · exact qai (20,0) rfl rfl (qap _ _ _)
    · rw[pfx_0]; exact qai (22,0) rfl rfl (qap _ _ _)
    · exact qai (25,0) rfl rfl (qar _ _)
  · rintro st ⟨H, rfl, h0, h1, h2, h3⟩
    apply qaG
    simp (disch:=first|omega|decide|simp only[nmsB,lB]) only[simprocAttr,-rR,-rS,leB,memB,arrB,numB,qaf,L13b1,qae,qac,qad,qab,qaa]
    rfl
  · rintro st ⟨H, rfl, h0, h1, h2, h3⟩ rfl
    simp (disch:=first|omega|decide|simp only[nmsB,lB]) only[simprocAttr,-rR,-rS,leB,memB,arrB,numB,qaf,L13b1,h0,h1,h2,h3,qae,qac,qad,qab,qaa]
    clear hL
    generalize hL:qaP L13k0 _ _ _=r
    refine qaK hL (ofJ0 e n t b) 32 (by omega) (fun i st hi hJ=>of0_round _ _ e n t b i hi st hJ) ?_ ?_ ?_
    · refine qal [(1, 0), (1, 1), (1, 2)] rfl (by simp only [simprocAttr, -rR, -rS, qaj, L13k0, qaD, qam, h0, h1, h2, qag, qab, qaa]) rfl ⟨_, rfl, ?_, ?_, ?_⟩
      · exact qai (1,0) rfl h0 (qap _ _ _)
      · exact qai (1,1) rfl h1 (qap _ _ _)
      · exact qai (1,2) rfl h2 (qap _ _ _)
    · rintro st ⟨H, rfl, h0, h1, h2⟩
      apply qaG
      simp (disch:=first|omega|decide|simp only[nmsB,lB]) only[simprocAttr,-rR,-rS,leB,memB,arrB,numB,qaf,L13b0,qae,qac,qad,qab,qaa]
      rfl
    · rintro st ⟨H, rfl, h0, h1, h2⟩ rfl
      rw[recL_pfx] at h2
      simp (disch:=first|omega|decide|simp only[nmsB,lB]) only[simprocAttr,-rR,-rS,leB,memB,arrB,numB,qaf,L13b0,h0,h1,h2,qae,qac,qad,qab,qaa]
      rw[qen]
end Sl
namespace Sl
open Go Go.LE Tb
open Sha (Lent qbf)
set_option maxRecDepth 20000
theorem c_xrnew (k b:Nat) (H:Heap) (B:LV) (key:List (BitVec 8)) (hk:key.length=32) (lent:List Nm) (hs:snap H D B=some (.isl (bs key) key.length,lent)) :
    qaA (envC C (k+401)) H b 19 [B]=some ⟨.tup [.ptr (b,0) 0,N 0],[[.ptr (b,1) 0,.ptr (b,3) 0],Aes.RF (.sl (b,2) 0 11 none 16) Aes.TB,bs (Aes.W 4 (key.take 16)),Aes.RF (.sl (b,4) 0 11 none 16) Aes.TB,bs (Aes.W 4 (key.drop 16))],[]⟩ :=
  Aes.c_xrnew k 4 b (.inl rfl) H B key hk lent hs
theorem qfY (k b:Nat) (H:Heap) (e n:Int) (d t:List (BitVec 8)):qaA (envC C (k+1)) H b 18 [.agg (EK e d t),I n]=some ⟨Bo (decide (mayE e n 512=0)),[],[]⟩:=by
  rw[qae l18 (by simp only[zI,zN,(qb6 e d t).anms,nms_I,zD]) (by simp only[zA,zB,(qb6 e d t).aren,ren_I]),right_F,qgV]
theorem Of_call (k b e n:Nat) (H:Heap) (d t:List (BitVec 8)) (hd:d.length=32) (ht:t.length=32) (B:LV) (bb:List (BitVec 8)) (hB:Lent H B bb []) (hb:bb.length=512) :
    qaA (envC C (k+1300)) H b 13 [.agg (EK e d t),N n,B]=some ⟨.agg (aB 64 fun j=>(recL e n t bb).getD j 0#8),[],[]⟩:=by
  rw[qgb rfl rfl rfl hB (qb6 e d t).anms rfl (qb6 e d t).aren (fun _=>rfl) (plain_v _ (qhp (.bs _))) (Of_F k e n d t bb hd ht hb),qaW,(PC.bs _).aren,qen]
  rfl
theorem mayE_1 {e n:Int} {len:Nat} (h:mayE e n 512≠0):mayE e n len=1:=by
  unfold mayE at h ⊢
  split at h
  · rename_i h1; rw[if_pos h1]
  · simp at h
theorem mayE_s {e n:Int} {len:Nat} (h:mayE e n 512=0) (hl:len≠512):mayE e n len=101:=by
  unfold mayE at h ⊢
  split at h
  · cases h
  · rename_i h1; rw[if_neg h1,if_neg hl]
theorem rSeal_bad (k:Nat) (e n:Int) (d t p:List (BitVec 8)) (hd:d.length=32) (ht:t.length=32) (hp:p.length < 9223372036854775808) (hm:mayE e n p.length≠0) :
    F C (k+2) 7 [.agg (EK e d t),I n,.isl (bs p) p.length] []=some (.tup [Nil,.agg (bs (List.replicate 64 0#8)),N (mayE e n p.length)],[],[]):=by
  rw[qaL f7]
  have hpc:=qb6 e d t
  have hc:=fun b H=>qfY k b H e n d t
  have hz:=PC.bs (List.replicate 64 0#8)
  by_cases h1:mayE e n 512=0
  · have h2 : p.length ≠ 512 := fun h => hm (by rw [h]; exact h1)
    have hd2:decide (p.length≠512)=true:=by simpa using h2
    simp (disch:=first|omega|decide|simp only[nmsB,lB]) only[simprocAttr,-rR,-rS,leB,memB,arrB,numB,qaf,opsB,qaz,qak,L7,hpc.isCell,qca e d t hd ht,hc,h1,h2,hd2,qfm,qgt,zC,qac,qad,qab,qaa,qah]
    rw[mayE_s h1 h2,z64,qbH (by rw[qc9]; simp only[zI,zN,hz.n7,qdy,zD] <;> rfl) (fun π=>by rw[qbS]; simp only[zA,zB,hz.r7,qdK] <;> rfl)]
  · simp (disch := first | omega | decide | simp only [nmsB, lB]) only [simprocAttr, -rR, -rS, leB, memB, arrB, numB, qaf, opsB, qaz, qak, L7, hpc.isCell, qca e d t hd ht, hc, h1, qfm, qgt, zC, qac, qad, qab, qaa, qah]
    rw[mayE_1 h1,z64,qbH (by rw[qc9]; simp only[zI,zN,hz.n7,qdy,zD] <;> rfl) (fun π=>by rw[qbS]; simp only[zA,zB,hz.r7,qdK] <;> rfl)]
theorem rSeal_F (k e n:Nat) (d t p:List (BitVec 8)) (hd:d.length=32) (ht:t.length=32) (hp:p.length=512) (hm:mayE e n 512=0) :
    F C (k+8000) 7 [.agg (EK e d t),N n,.isl (bs p) p.length] []=some (.tup [.sl (1,0) 0 512 none 1,.agg (bs (recL e n t (qby d n p))),N 0],[],[bs (qby d n p)]):=by
  rw[qaL f7]
  have hpc:=qb6 e d t
  have hc:∀ b H,qaA (envC C (k+7999)) H b 18 [.agg (EK e d t),N n]=some ⟨Bo true,[],[]⟩:=fun b H=>by
    have h:=qfY (k+7998) b H e n d t
    rw[hm] at h; exact h
  simp (disch:=first|omega|decide|simp only[nmsB,lB]) only[simprocAttr,-rR,-rS,leB,memB,arrB,numB,qaf,opsB,qaz,qak,L7,hpc.isCell,qca e d t hd ht,hc,hp,qac,qad,qab,qaa,qah]
  rw[c_xrnew (k+7598) _ _ _ d hd [(2,0)] (qbJ _ (2,0) 1 32 _ (EK e d t) d rfl (EK_d _ d t hd) hd (by decide) 6)]
  simp (disch:=first|omega|decide|simp only[nmsB,lB]) only[simprocAttr,-rR,-rS,leB,memB,arrB,numB,qaf,opsB,qaz,qak,hpc.isCell,qca e d t hd ht,qac,qad,qab,qaa,qah]
  generalize hG:upd _ (15,4) _=G
  have X:Aes.RXG G (15,0) (15,1) (15,2) (15,3) (15,4) 9 (Aes.W 4 (d.take 16)) (Aes.W 4 (d.drop 16)):=by rw[←hG]; exact ⟨rfl,rfl,rfl,rfl,rfl,by decide⟩
  have g2:G (2,0)=some (EK e d t):=by rw[←hG]; rfl
  have g4:G (4,0)=some (aB 64 fun _=>0#8):=by rw[←hG]; rfl
  clear hG
  have l1:(Aes.W 4 (d.take 16)).length=16*(9+2):=Aes.qex 4 _ (by rw[zT,hd] <;> rfl)
  have l2:(Aes.W 4 (d.drop 16)).length=16*(9+2):=Aes.qex 4 _ (by rw[zR,hd])
  have he:=Aes.c_ren (k+7999) 20 9 25 Aes.lent25 G (15,0) (15,1) (15,2) (15,3) (15,4) _ _ X (BitVec.ofNat 64 n) p _ p.length (Aes.renc25_F (k+998) 9 (by decide) _ _ l1 l2 (BitVec.ofNat 64 n) p (by omega) (by omega) (by omega))
  rw[show Aes.qbF (Aes.En false (Aes.W 4 (d.take 16)) 9) (Aes.tw0 9 (Aes.W 4 (d.drop 16)) (BitVec.ofNat 64 n)) p false=qby d n p from rfl,hp] at he
  have hs:=X.same
  have hsl:=qeW d n p hp
  simp (disch:=first|omega|decide|simp only[nmsB,lB]) only[simprocAttr,-rR,-rS,leB,memB,arrB,numB,qaf,opsB,qaz,qak,he,hs,g2,g4,qca e d t hd ht,qac,qad,qab,qaa,qah]
  rw[Of_call (k+6699) _ e n _ d t hd ht _ (qby d n p) (by
    have h:=Sha.qem (upd G (25,0) (some (bs (qby d n p)))) (25,0) 0 512 none (qby d n p) [] rfl (by omega) rfl
    rwa [zE,List.take_of_length_le (by omega)] at h) hsl,qen]
  simp (disch:=first|omega|decide|simp only[nmsB,lB]) only[simprocAttr,-rR,-rS,leB,memB,arrB,numB,qaf,opsB,qaz,qak,g4,qfm,qgt,zC,qac,qad,qab,qaa,qah]
  exact out_tat _ _ _ 25 512 0 none (.aB _ _) (qby d n p) (by decide) rfl
theorem rOpen_bad (k:Nat) (e n:Int) (d t p:List (BitVec 8)) (r:Nat→BitVec 8) (hd:d.length=32) (ht:t.length=32) (hp:p.length < 9223372036854775808) (hm:mayE e n p.length≠0) :
    F C (k+2) 10 [.agg (EK e d t),I n,.isl (bs p) p.length,.agg (aB 64 r)] []=some (.tup [Nil,N (mayE e n p.length)],[],[]):=by
  rw[qaL f10]
  have hpc:=qb6 e d t
  have hc:=fun b H=>qfY k b H e n d t
  by_cases h1:mayE e n 512=0
  · have h2 : p.length ≠ 512 := fun h => hm (by rw [h]; exact h1)
    have hd2:decide (p.length≠512)=true:=by simpa using h2
    simp (disch:=first|omega|decide|simp only[nmsB,lB]) only[simprocAttr,-rR,-rS,leB,memB,arrB,numB,qaf,opsB,qaz,qak,L10,hpc.isCell,qca e d t hd ht,hc,h1,h2,hd2,zC,qac,qad,qab,qaa,qah]
    rw[mayE_s h1 h2,qbH rfl (fun _=>rfl)]
  · simp (disch := first | omega | decide | simp only [nmsB, lB]) only [simprocAttr, -rR, -rS, leB, memB, arrB, numB, qaf, opsB, qaz, qak, L10, hpc.isCell, qca e d t hd ht, hc, h1, zC, qac, qad, qab, qaa, qah]
    rw[mayE_1 h1,qbH rfl (fun _=>rfl)]
theorem same_rec (L:List (BitVec 8)) (r:Nat→BitVec 8) (h:L.length=64):qdj 64 (fun j=>L.getD j 0#8) r=decide ((List.range 64).map r=L):=by
  rw[Bool.eq_iff_iff,qh5,decide_eq_true_iff]
  constructor
  · intro hh
    apply List.ext_getElem (by simp[h])
    intro i h1 h2
    have:=hh i (by omega)
    rw[List.getD_eq_getElem?_getD,List.getElem?_eq_getElem h2] at this
    simpa using this.symm
  · rintro rfl i hi
    simp[hi]
theorem rOpen_F (k e n:Nat) (d t p:List (BitVec 8)) (r:Nat→BitVec 8) (hd:d.length=32) (ht:t.length=32) (hp:p.length=512) (hm:mayE e n 512=0) :
    F C (k + 8000) 10 [.agg (EK e d t), N n, .isl (bs p) p.length, .agg (aB 64 r)] [] =
      if (List.range 64).map r=recL e n t p then some (.tup [.sl (1,0) 0 512 none 1,N 0],[],[bs (qcp d n p)]) else some (.tup [Nil,N 160],[],[]):=by
  rw[qaL f10]
  have hpc:=qb6 e d t
  have hc:∀ b H,qaA (envC C (k+7999)) H b 18 [.agg (EK e d t),N n]=some ⟨Bo true,[],[]⟩:=fun b H=>by
    have h:=qfY (k+7998) b H e n d t
    rw[hm] at h; exact h
  have hO:∀ b H,qaA (envC C (k+7999)) H b 13 [.agg (EK e d t),N n,.isl (bs p) 512]=some ⟨.agg (aB 64 fun j=>(recL e n t p).getD j 0#8),[],[]⟩:=fun b H=>by
    have h:=Of_call (k+6699) b e n H d t hd ht (.isl (bs p) p.length) p (qbf _ _ _) hp
    rw[hp] at h; exact h
  simp (disch:=first|omega|decide|simp only[nmsB,lB]) only[simprocAttr,-rR,-rS,leB,memB,arrB,numB,qaf,opsB,ordB,qaj,qaz,qak,L10,hpc.isCell,qca e d t hd ht,hc,hp,hO,hpc.anms,qa1,qdp,same_rec _ r (qb4 e n t p),qac,qad,qab,qaa,qaq,qag,qah]
  by_cases h:(List.range 64).map r=recL e n t p
  · have hd1 : decide ((List.range 64).map r = recL e n t p) = true := decide_eq_true h
    rw[if_pos h]
    simp (disch:=first|omega|decide|simp only[nmsB,lB]) only[simprocAttr,-rR,-rS,leB,memB,arrB,numB,qaf,opsB,ordB,qaj,qaz,qak,hd1,qac,qad,qab,qaa,qaq,qag,qah]
    rw[c_xrnew (k+7598) _ _ _ d hd [(2,0)] (qbJ _ (2,0) 1 32 _ (EK e d t) d rfl (EK_d _ d t hd) hd (by decide) 6)]
    simp (disch:=first|omega|decide|simp only[nmsB,lB]) only[simprocAttr,-rR,-rS,leB,memB,arrB,numB,qaf,opsB,qaz,qak,qac,qad,qab,qaa,qah]
    generalize hG:upd _ (21,4) _=G
    have X:Aes.RXG G (21,0) (21,1) (21,2) (21,3) (21,4) 9 (Aes.W 4 (d.take 16)) (Aes.W 4 (d.drop 16)):=by rw[←hG]; exact ⟨rfl,rfl,rfl,rfl,rfl,by decide⟩
    clear hG
    have l1:(Aes.W 4 (d.take 16)).length=16*(9+2):=Aes.qex 4 _ (by rw[zT,hd] <;> rfl)
    have l2:(Aes.W 4 (d.drop 16)).length=16*(9+2):=Aes.qex 4 _ (by rw[zR,hd])
    have he:=Aes.c_ren (k+7999) 27 9 31 Aes.lent27 G (21,0) (21,1) (21,2) (21,3) (21,4) _ _ X (BitVec.ofNat 64 n) p _ p.length (Aes.renc27_F (k+998) 9 (by decide) _ _ l1 l2 (BitVec.ofNat 64 n) p (by omega) (by omega) (by omega))
    rw[show Aes.qbF (Aes.En true (Aes.W 4 (d.take 16)) 9) (Aes.tw0 9 (Aes.W 4 (d.drop 16)) (BitVec.ofNat 64 n)) p true=qcp d n p from rfl,hp] at he
    have hs:=X.same
    simp (disch:=first|omega|decide|simp only[nmsB,lB]) only[simprocAttr,-rR,-rS,leB,memB,arrB,numB,qaf,opsB,qaz,qak,he,hs,zC,qac,qad,qab,qaa,qah]
    exact out_st _ _ _ 31 512 0 none (qcp d n p) (by decide) rfl
  · have hd1 : decide ((List.range 64).map r = recL e n t p) = false := decide_eq_false h
    rw[if_neg h]
    simp (disch:=first|omega|decide|simp only[nmsB,lB]) only[simprocAttr,-rR,-rS,leB,memB,arrB,numB,qaf,opsB,ordB,qaj,qaz,qak,hd1,qac,qad,qab,qaa,qaq,qag,qah]
    rw[qbH rfl (fun _=>rfl)]
end Sl
